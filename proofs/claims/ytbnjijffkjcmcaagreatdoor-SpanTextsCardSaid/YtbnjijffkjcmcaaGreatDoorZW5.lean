import Derived.Test.YtbnjijffkjcmcaaGreatDoorZAL4
import Derived.Lib.ItoaNum
import Derived.Lib.Join
import Derived.Lib.IndexMore
import Derived.Lib.CutLaws
/- What single functions compute: a part of the proof; no conditions. -/
set_option linter.unusedVariables false
set_option linter.unusedSimpArgs false
set_option linter.unusedSectionVars false
namespace Go.Proofs.YtbnjijffkjcmcaaGreatDoor.AL
open Go
/-! ### Strings as lists of bytes -/
def bs (l : List UInt8) : ByteArray := ⟨l.toArray⟩
theorem bs_data (l : List UInt8) : (bs l).data.toList = l := by simp [bs]
theorem bs_toList (l : List UInt8) : (bs l).toList = l := by rw [ByteArray.toList_eq, bs_data]
theorem bs_size (l : List UInt8) : (bs l).size = l.length := by simp [bs, ByteArray.size]
theorem bs_eta (s : ByteArray) : bs s.data.toList = s := Lib.mk_data s
theorem bs_ex (s : ByteArray) : ∃ l, s = bs l := ⟨_, (bs_eta s).symm⟩
theorem bs_inj {l m : List UInt8} : bs l = bs m ↔ l = m := ⟨fun h => by rw [← bs_data l, h, bs_data], fun h => by rw [h]⟩
theorem ba_ext {a b : ByteArray} (h : a.data.toList = b.data.toList) : a = b := by rw [← bs_eta a, h, bs_eta]
theorem bs_append (l m : List UInt8) : bs l ++ bs m = bs (l ++ m) := by
  apply ba_ext
  rw [bs_data, ByteArray.data_append, Array.toList_append, bs_data, bs_data]
theorem bs_extract (l : List UInt8) (i j : Nat) : (bs l).extract i j = bs ((l.drop i).take (j - i)) := by rw [Lib.extract_eq, bs_data]; rfl
theorem bs_lit (a : Array UInt8) : (⟨a⟩ : ByteArray) = bs a.toList := rfl
theorem bs_sat (l : List UInt8) (n : Int) : sat (bs l) n = ((l.getD n.toNat 0).toNat : Int) := by
  unfold sat
  have : (bs l)[n.toNat]? = l[n.toNat]? := by
    rw [← bs_data l, bs_eta]
    generalize bs l = s
    rw [getElem?_def, getElem?_def]
    split
    · rename_i h
      rw [dif_pos (by rw [← Lib.size_eq]; exact h)]
      rfl
    · rename_i h
      rw [dif_neg (by rw [← Lib.size_eq]; exact h)]
  rw [this, List.getD_eq_getElem?_getD]
/-! ### Numerals -/
/-- The character of a digit. -/
def dch (d : Nat) : UInt8 := UInt8.ofNat (if d < 10 then 48 + d else 87 + d)
theorem head_app {l m : List UInt8} (h : l ≠ []) : (l ++ m).head? = l.head? := by cases l <;> simp_all
def dgF : Nat → Nat → Nat → List UInt8
  | 0, b, n => [dch n]
  | f + 1, b, n => if n < b then [dch n] else dgF f b (n / b) ++ [dch (n % b)]
/-- The numeral of a number in a base. -/
def dgs (b n : Nat) : List UInt8 := dgF 64 b n
theorem dgF_lt {f b n : Nat} (h : n < b) : dgF f b n = [dch n] := by
  cases f with
  | zero => rfl
  | succ f => rw [dgF, if_pos h]
theorem dgF_fuel {b : Nat} (hb : 2 ≤ b) : ∀ (f g n : Nat), n < 2 ^ f → n < 2 ^ g → dgF f b n = dgF g b n
  | 0, g, n, h, _ => by
    have : n = 0 := by simpa using h
    subst this
    rw [dgF_lt (by omega), dgF_lt (by omega)]
  | f + 1, 0, n, _, h => by
    have : n = 0 := by simpa using h
    subst this
    rw [dgF_lt (by omega), dgF_lt (by omega)]
  | f + 1, g + 1, n, h1, h2 => by
    rw [dgF, dgF]
    split
    · rfl
    · have key : ∀ k, n < 2 ^ (k + 1) → n / b < 2 ^ k := by
        intro k hk
        rw [Nat.pow_succ] at hk
        apply Nat.div_lt_of_lt_mul
        have : 2 * 2 ^ k ≤ b * 2 ^ k := Nat.mul_le_mul_right _ hb
        omega
      rw [dgF_fuel hb f g (n / b) (key f h1) (key g h2)]
theorem dgs_lt {b n : Nat} (h : n < b) : dgs b n = [dch n] := dgF_lt h
theorem dgs_step {b n : Nat} (hb : 2 ≤ b) (hn : n < 18446744073709551616) (h : b ≤ n) : dgs b n = dgs b (n / b) ++ [dch (n % b)] := by
  have h1 : n / b < 2 ^ 63 := by
    apply Nat.div_lt_of_lt_mul
    have : 2 * 2 ^ 63 ≤ b * 2 ^ 63 := Nat.mul_le_mul_right _ hb
    omega
  unfold dgs
  rw [dgF, if_neg (by omega), dgF_fuel hb 63 64 (n / b) h1 (by omega)]
theorem dgs_ne {b n : Nat} : dgs b n ≠ [] := by
  unfold dgs
  rw [dgF]
  split <;> simp
theorem decDigits_dgs : ∀ (n : Nat), n < 18446744073709551616 → Lib.decDigits n = dgs 10 n := by
  intro n
  induction n using Nat.strongRecOn with
  | _ n ih =>
    intro hn
    by_cases h : n < 10
    · rw [Lib.decDigits, dif_pos h, dgs_lt h]
      unfold dch
      rw [if_pos h]
    · rw [Lib.decDigits, dif_neg h, dgs_step (by omega) hn (by omega), ih (n / 10) (by omega) (by omega)]
      unfold dch
      rw [if_pos (by omega)]
/-- The value of a digit (small letters). -/
def dval (b : Nat) (c : UInt8) : Option Nat :=
  if 48 ≤ c.toNat ∧ c.toNat ≤ 57 then (if c.toNat - 48 < b then some (c.toNat - 48) else none)
  else if 97 ≤ c.toNat ∧ c.toNat ≤ 102 then (if c.toNat - 87 < b then some (c.toNat - 87) else none)
  else none
def valF (b : Nat) : Nat → List UInt8 → Option Nat
  | n, [] => some n
  | n, c :: l => match dval b c with
    | some d => valF b (n * b + d) l
    | none => none
theorem valF_app (b : Nat) : ∀ (l : List UInt8) (n : Nat) (c : UInt8), valF b n (l ++ [c]) = match valF b n l with | some m => (dval b c).map (m * b + ·) | none => none
  | [], n, c => by
    simp only [List.nil_append, valF]
    cases dval b c <;> rfl
  | x :: l, n, c => by
    simp only [List.cons_append, valF]
    cases dval b x with
    | none => rfl
    | some d => exact valF_app b l _ c
theorem dch_toNat {d : Nat} (h : d < 16) : (dch d).toNat = if d < 10 then 48 + d else 87 + d := by
  unfold dch
  have : (if d < 10 then 48 + d else 87 + d) < 256 := by split <;> omega
  simp [UInt8.toNat_ofNat, Nat.mod_eq_of_lt this]
theorem dval_dch {b d : Nat} (hb : b ≤ 16) (h : d < b) : dval b (dch d) = some d := by
  have h1 := dch_toNat (d := d) (by omega)
  unfold dval
  rw [h1]
  by_cases h2 : d < 10
  · simp only [h2, if_true]
    rw [if_pos (by omega), if_pos (by omega)]
    congr 1; omega
  · simp only [h2, if_false]
    rw [if_neg (by omega), if_pos (by omega), if_pos (by omega)]
    congr 1; omega
theorem dval_eq {b d : Nat} {c : UInt8} (h : dval b c = some d) : c = dch d ∧ d < b ∧ d < 16 := by
  unfold dval at h
  have hc : c.toNat < 256 := c.toNat_lt
  split at h
  · rename_i h1
    split at h
    · cases h
      refine ⟨?_, by assumption, by omega⟩
      apply UInt8.toNat_inj.1
      rw [dch_toNat (by omega), if_pos (by omega)]
      omega
    · cases h
  · split at h
    · rename_i h1
      split at h
      · cases h
        refine ⟨?_, by assumption, by omega⟩
        apply UInt8.toNat_inj.1
        rw [dch_toNat (by omega), if_neg (by omega)]
        omega
      · cases h
    · cases h
theorem valF_dgs {b : Nat} (hb : 2 ≤ b) (hb' : b ≤ 16) : ∀ n, n < 18446744073709551616 → valF b 0 (dgs b n) = some n := by
  intro n
  induction n using Nat.strongRecOn with
  | _ n ih =>
    intro hn
    by_cases h : n < b
    · rw [dgs_lt h]
      simp only [valF, dval_dch hb' h]
      simp
    · have hlt : n / b < n := Nat.div_lt_self (by omega) (by omega)
      rw [dgs_step hb hn (by omega), valF_app, ih (n / b) hlt (by omega), dval_dch hb' (Nat.mod_lt _ (by omega))]
      simp only [Option.map_some, Option.some.injEq]
      rw [Nat.mul_comm]
      exact Nat.div_add_mod n b
theorem dgs_len {b : Nat} (hb : 2 ≤ b) : ∀ (k n : Nat), n < 18446744073709551616 → n < b ^ (k + 1) → (dgs b n).length ≤ k + 1
  | 0, n, hn, h => by
    rw [dgs_lt (by simpa using h)]; simp
  | k + 1, n, hn, h => by
    by_cases h1 : n < b
    · rw [dgs_lt h1]; simp
    · rw [dgs_step hb hn (by omega), List.length_append]
      have := dgs_len hb k (n / b) (Nat.lt_of_le_of_lt (Nat.div_le_self _ _) hn) (by
        rw [Nat.pow_succ] at h
        exact Nat.div_lt_of_lt_mul (by rw [Nat.mul_comm]; exact h))
      simp; omega
theorem dch_ne48 {d : Nat} (h : d < 16) (h0 : d ≠ 0) : dch d ≠ 48 := by
  intro e
  have := congrArg UInt8.toNat e
  rw [dch_toNat h] at this
  have h48 : (48 : UInt8).toNat = 48 := rfl
  rw [h48] at this
  split at this <;> omega
theorem dgs_head {b : Nat} (hb : 2 ≤ b) (hb' : b ≤ 16) : ∀ n, n < 18446744073709551616 → 0 < n → (dgs b n).head? ≠ some 48 := by
  intro n
  induction n using Nat.strongRecOn with
  | _ n ih =>
    intro hn h0
    by_cases h : n < b
    · rw [dgs_lt h]
      simp only [List.head?_cons, ne_eq, Option.some.injEq]
      exact dch_ne48 (by omega) (by omega)
    · have hlt : n / b < n := Nat.div_lt_self (by omega) (by omega)
      rw [dgs_step hb hn (by omega), head_app dgs_ne]
      exact ih (n / b) hlt (by omega) (Nat.div_pos (by omega) (by omega))
theorem dgs_lead {b : Nat} (hb : 2 ≤ b) (hb' : b ≤ 16) {n : Nat} (hn : n < 18446744073709551616) (h : 1 < (dgs b n).length) : (dgs b n).head? ≠ some 48 := by
  refine dgs_head hb hb' n hn ?_
  rcases Nat.eq_zero_or_pos n with h0 | h0
  · subst h0
    rw [dgs_lt (by omega)] at h
    simp at h
  · exact h0
theorem valF_bd (b : Nat) : ∀ (l : List UInt8) (n m : Nat), valF b n l = some m → m < (n + 1) * b ^ l.length
  | [], n, m, h => by
    simp only [valF, Option.some.injEq] at h
    subst h; simp
  | c :: l, n, m, h => by
    simp only [valF] at h
    split at h
    · rename_i d hd
      have h1 := valF_bd b l _ m h
      have h2 := (dval_eq hd).2.1
      have h3 : n * b + d + 1 ≤ (n + 1) * b := by rw [Nat.add_mul]; omega
      have h4 := Nat.mul_le_mul_right (b ^ l.length) h3
      rw [List.length_cons, Nat.pow_succ, Nat.mul_comm (b ^ l.length) b, ← Nat.mul_assoc]
      omega
    · cases h
/-- A row of digits without zeros in front is a numeral. -/
theorem valF_canon {b : Nat} (hb : 2 ≤ b) (hb' : b ≤ 16) : ∀ (k : Nat) (l : List UInt8) (n : Nat), l.length = k + 1 → b ^ (k + 1) ≤ 18446744073709551616 → valF b 0 l = some n → (1 < l.length → l.head? ≠ some 48) → l = dgs b n
  | 0, l, n, hl, hp, hv, hz => by
    match l, hl with
    | [c], _ =>
      simp only [valF] at hv
      split at hv
      · rename_i d hd
        obtain ⟨e, h1, _⟩ := dval_eq hd
        simp at hv
        subst hv
        rw [dgs_lt h1, e]
      · cases hv
  | k + 1, l, n, hl, hp, hv, hz => by
    obtain ⟨m, c, rfl⟩ : ∃ m c, l = m ++ [c] := ⟨l.dropLast, l.getLast (by intro e; rw [e] at hl; simp at hl), (List.dropLast_concat_getLast _).symm⟩
    have hm : m.length = k + 1 := by simpa using hl
    have hmn : m ≠ [] := by intro e; rw [e] at hm; simp at hm
    rw [valF_app] at hv
    have hp' : b ^ (k + 1) ≤ b ^ (k + 1 + 1) := Nat.pow_le_pow_right (by omega) (by omega)
    cases hx : valF b 0 m with
    | none => rw [hx] at hv; cases hv
    | some x =>
      rw [hx] at hv
      cases hd : dval b c with
      | none => rw [hd] at hv; cases hv
      | some d =>
        rw [hd] at hv
        simp only [Option.map_some, Option.some.injEq] at hv
        obtain ⟨e, h1, _⟩ := dval_eq hd
        have hz' := hz (by simp [hm])
        rw [head_app hmn] at hz'
        have ih := valF_canon hb hb' k m x hm (by omega) hx (fun _ => hz')
        have hx0 : 0 < x := by
          rcases Nat.eq_zero_or_pos x with h0 | h0
          · rw [h0, dgs_lt (by omega)] at ih
            rw [ih] at hz'
            simp [dch] at hz'
          · exact h0
        have hbd := valF_bd b m 0 x hx
        rw [hm] at hbd
        have hn64 : n < 18446744073709551616 := by
          rw [← hv]
          rw [Nat.pow_succ] at hp
          simp only [Nat.zero_add, Nat.one_mul] at hbd
          have : (x + 1) * b ≤ b ^ (k + 1) * b := Nat.mul_le_mul_right b hbd
          rw [Nat.add_mul] at this
          omega
        have hge : b ≤ x * b + d := by
          have : 1 * b ≤ x * b := Nat.mul_le_mul_right b hx0
          omega
        rw [← hv] at hn64 ⊢
        rw [dgs_step hb hn64 hge, e]
        have e1 : (x * b + d) / b = x := by
          rw [Nat.mul_comm, Nat.mul_add_div (by omega), Nat.div_eq_of_lt h1]; omega
        have e2 : (x * b + d) % b = d := by
          rw [Nat.mul_comm, Nat.mul_add_mod, Nat.mod_eq_of_lt h1]
        rw [e1, e2, ← ih]
/-- What the reference reads as a number. -/
def rnum (b lim : Nat) (l : List UInt8) : Nat × Bool :=
  if l.length = 0 ∨ 10 < l.length ∨ (1 < l.length ∧ l.head? = some 48) then (0, false) else match valF b 0 l with
    | some n => (n, decide (n ≤ lim))
    | none => (0, false)
theorem rnum_iff {b lim : Nat} (hb : 2 ≤ b) (hb' : b ≤ 16) (hlim : lim < b ^ 10) (hl64 : lim < 18446744073709551616) {l : List UInt8} {n : Nat} : rnum b lim l = (n, true) ↔ l = dgs b n ∧ n ≤ lim := by
  have hp : b ^ 10 ≤ 18446744073709551616 := Nat.le_trans (Nat.pow_le_pow_left hb' 10) (by decide)
  constructor
  · intro h
    unfold rnum at h
    split at h
    · simp at h
    · rename_i h1
      split at h
      · rename_i m hm
        simp only [Prod.mk.injEq, decide_eq_true_eq] at h
        obtain ⟨rfl, h2⟩ := h
        have hpl : b ^ (l.length - 1 + 1) ≤ b ^ 10 := Nat.pow_le_pow_right (by omega) (by omega)
        exact ⟨valF_canon hb hb' (l.length - 1) l m (by omega) (by omega) hm (fun h3 h4 => h1 (.inr (.inr ⟨h3, h4⟩))), h2⟩
      · simp at h
  · rintro ⟨rfl, h⟩
    unfold rnum
    have h1 := dgs_len hb 9 n (by omega) (by show n < b ^ 10; omega)
    have h2 : (dgs b n).length ≠ 0 := by simpa using dgs_ne
    rw [if_neg ?_, valF_dgs hb hb' n (by omega)]
    · simp [h]
    · rintro (h3 | h3 | h3)
      · exact h2 h3
      · omega
      · exact dgs_lead hb hb' (by omega) h3.1 h3.2
theorem dgs_mem {b : Nat} (hb : 2 ≤ b) (hb' : b ≤ 16) : ∀ n, n < 18446744073709551616 → ∀ c ∈ dgs b n, ∃ d, d < b ∧ c = dch d := by
  intro n
  induction n using Nat.strongRecOn with
  | _ n ih =>
    intro hn c hc
    by_cases h : n < b
    · rw [dgs_lt h] at hc
      exact ⟨n, h, by simpa using hc⟩
    · have hlt : n / b < n := Nat.div_lt_self (by omega) (by omega)
      rw [dgs_step hb hn (by omega)] at hc
      rcases List.mem_append.1 hc with hc | hc
      · exact ih (n / b) hlt (by omega) c hc
      · exact ⟨n % b, Nat.mod_lt _ (by omega), by simpa using hc⟩
theorem dch_ne {d : Nat} (h : d < 16) {c : UInt8} (hc : c.toNat < 48 ∨ (57 < c.toNat ∧ c.toNat < 97) ∨ 102 < c.toNat) : dch d ≠ c := by
  rintro rfl
  rw [dch_toNat h] at hc
  split at hc <;> omega
theorem dgs_no {b : Nat} (hb : 2 ≤ b) (hb' : b ≤ 16) {n : Nat} (hn : n < 18446744073709551616) {c : UInt8} (hc : c.toNat < 48 ∨ (57 < c.toNat ∧ c.toNat < 97) ∨ 102 < c.toNat) : c ∉ dgs b n := by
  intro h
  obtain ⟨d, h1, rfl⟩ := dgs_mem hb hb' n hn c h
  exact dch_ne (by omega) hc rfl
theorem dgs_inj {b n m : Nat} (hb : 2 ≤ b) (hb' : b ≤ 16) (hn : n < 18446744073709551616) (hm : m < 18446744073709551616) (h : dgs b n = dgs b m) : n = m := by
  have h1 := valF_dgs hb hb' n hn
  rw [h, valF_dgs hb hb' m hm] at h1
  simpa using h1.symm
end Go.Proofs.YtbnjijffkjcmcaaGreatDoor.AL
namespace Go.Proofs.YtbnjijffkjcmcaaGreatDoor.AL
open Go
/-! ### Splitting at a byte, joining -/
def spl (c : UInt8) : List UInt8 → List (List UInt8)
  | [] => [[]]
  | x :: l => if x = c then [] :: spl c l else match spl c l with
    | p :: ps => (x :: p) :: ps
    | [] => [[x]]
theorem spl_none {c : UInt8} : ∀ {l : List UInt8}, c ∉ l → spl c l = [l]
  | [], _ => rfl
  | x :: l, h => by
    simp only [List.mem_cons, not_or] at h
    rw [spl, if_neg (Ne.symm h.1), spl_none h.2]
theorem spl_app {c : UInt8} : ∀ {p : List UInt8} (l : List UInt8), c ∉ p → spl c (p ++ c :: l) = p :: spl c l
  | [], l, _ => by simp [spl]
  | x :: p, l, h => by
    simp only [List.mem_cons, not_or] at h
    rw [List.cons_append, spl, if_neg (Ne.symm h.1), spl_app l h.2]
theorem spl_ne (c : UInt8) (l : List UInt8) : spl c l ≠ [] := by
  cases l with
  | nil => simp [spl]
  | cons x l => unfold spl; split; simp; split <;> simp
theorem join_cons2 (p q : List UInt8) (ps : List (List UInt8)) (sep : List UInt8) : Lib.join (p :: q :: ps) sep = p ++ sep ++ Lib.join (q :: ps) sep := by
  rw [Lib.join_cons, Lib.join_cons]
  simp [Lib.joinTail]
theorem spl_join {c : UInt8} : ∀ (ps : List (List UInt8)), ps ≠ [] → (∀ p ∈ ps, c ∉ p) → spl c (Lib.join ps [c]) = ps
  | [], h, _ => absurd rfl h
  | [p], _, h => by rw [Lib.join_one, spl_none (h p (by simp))]
  | p :: q :: ps, _, h => by
    rw [join_cons2, List.append_assoc, List.singleton_append, spl_app _ (h p (by simp)), spl_join (q :: ps) (by simp) (fun x hx => h x (by simp [hx]))]
theorem join_spl (c : UInt8) : ∀ (l : List UInt8), Lib.join (spl c l) [c] = l
  | [] => by simp [spl, Lib.join_one]
  | x :: l => by
    have ih := join_spl c l
    unfold spl
    split
    · rename_i h
      subst h
      obtain ⟨p, ps, e⟩ := List.exists_cons_of_ne_nil (spl_ne x l)
      rw [e] at ih ⊢
      rw [join_cons2, ih]
      simp
    · split
      · rename_i p ps e
        rw [e] at ih
        rw [Lib.join_cons] at ih ⊢
        rw [← ih]
        simp
      · rename_i e
        exact absurd e (spl_ne c l)
theorem spl_no (c : UInt8) : ∀ (l : List UInt8), ∀ p ∈ spl c l, c ∉ p
  | [], p, h => by simp [spl] at h; simp [h]
  | x :: l, p, h => by
    have ih := spl_no c l
    unfold spl at h
    split at h
    · rcases List.mem_cons.1 h with rfl | h
      · simp
      · exact ih p h
    · rename_i hx
      split at h
      · rename_i q qs e
        rw [e] at ih
        rcases List.mem_cons.1 h with rfl | h
        · simp only [List.mem_cons, not_or]
          exact ⟨fun e => hx e.symm, ih q (by simp)⟩
        · exact ih p (by simp [h])
      · simp only [List.mem_singleton] at h
        subst h
        simpa using fun e => hx e.symm
theorem mem_join {c : UInt8} {sep : List UInt8} : ∀ (ps : List (List UInt8)), c ∈ Lib.join ps sep → c ∈ sep ∨ ∃ p ∈ ps, c ∈ p
  | [], h => by simp [Lib.join_nil] at h
  | [p], h => by rw [Lib.join_one] at h; exact .inr ⟨p, by simp, h⟩
  | p :: q :: ps, h => by
    rw [join_cons2] at h
    rcases List.mem_append.1 h with h | h
    · rcases List.mem_append.1 h with h | h
      · exact .inr ⟨p, by simp, h⟩
      · exact .inl h
    · rcases mem_join (q :: ps) h with h | ⟨x, hx, h⟩
      · exact .inl h
      · exact .inr ⟨x, by simp [hx], h⟩
/-- The first place of two colons. -/
def cut2 : List UInt8 → Option (List UInt8 × List UInt8)
  | x :: y :: l => if x = 58 ∧ y = 58 then some ([], l) else (cut2 (y :: l)).map fun p => (x :: p.1, p.2)
  | _ => none
theorem cut2_ne {x : UInt8} (h : x ≠ 58) (m : List UInt8) : cut2 (x :: m) = (cut2 m).map fun p => (x :: p.1, p.2) := by
  cases m with
  | nil => rfl
  | cons y l => rw [cut2, if_neg (fun e => h e.1)]
theorem cut2_app {p : List UInt8} (h : (58 : UInt8) ∉ p) (m : List UInt8) : cut2 (p ++ m) = (cut2 m).map fun q => (p ++ q.1, q.2) := by
  induction p with
  | nil => simp
  | cons x p ih =>
    simp only [List.mem_cons, not_or] at h
    rw [List.cons_append, cut2_ne (Ne.symm h.1), ih h.2, Option.map_map]
    rfl
theorem cut2_tail : ∀ (ps : List (List UInt8)) (m : List UInt8), (∀ p ∈ ps, (58 : UInt8) ∉ p ∧ p ≠ []) → cut2 (Lib.joinTail [58] ps ++ m) = (cut2 m).map fun q => (Lib.joinTail [58] ps ++ q.1, q.2)
  | [], m, _ => by simp [Lib.joinTail]
  | p :: ps, m, h => by
    obtain ⟨h1, h2⟩ := h p (by simp)
    have e : Lib.joinTail [58] (p :: ps) = 58 :: (p ++ Lib.joinTail [58] ps) := by simp [Lib.joinTail]
    have ih := cut2_tail ps m (fun q hq => h q (by simp [hq]))
    rw [e, List.cons_append, List.append_assoc]
    have h3 := cut2_app h1 (Lib.joinTail [58] ps ++ m)
    rw [ih, Option.map_map] at h3
    obtain ⟨x, p', rfl⟩ := List.exists_cons_of_ne_nil h2
    simp only [List.mem_cons, not_or] at h1
    rw [List.cons_append, cut2, if_neg (fun e => h1.1 e.2.symm), ← List.cons_append, h3, Option.map_map]
    congr 1
    funext q
    simp
theorem cut2_join (ps : List (List UInt8)) (m : List UInt8) (h : ∀ p ∈ ps, (58 : UInt8) ∉ p ∧ p ≠ []) : cut2 (Lib.join ps [58] ++ m) = (cut2 m).map fun q => (Lib.join ps [58] ++ q.1, q.2) := by
  cases ps with
  | nil => simp [Lib.join_nil]
  | cons p ps =>
    rw [Lib.join_cons, List.append_assoc, cut2_app (h p (by simp)).1, cut2_tail ps m (fun q hq => h q (by simp [hq])), Option.map_map]
    congr 1
    funext q
    simp
theorem cut2_some : ∀ {l a b : List UInt8}, cut2 l = some (a, b) → l = a ++ 58 :: 58 :: b
  | [], a, b, h => by simp [cut2] at h
  | [x], a, b, h => by simp [cut2] at h
  | x :: y :: l, a, b, h => by
    unfold cut2 at h
    split at h
    · rename_i h1
      cases h
      rw [h1.1, h1.2]
      rfl
    · simp only [Option.map_eq_some_iff] at h
      obtain ⟨⟨a', b'⟩, h1, h2⟩ := h
      cases h2
      have := cut2_some h1
      rw [this]
      rfl
/-! ### The groups of an address -/
def grpN (x i : Nat) : Nat := x / 2 ^ (48 - 16 * i) % 65536
def G8 (h l : Nat) : List Nat := [grpN h 0, grpN h 1, grpN h 2, grpN h 3, grpN l 0, grpN l 1, grpN l 2, grpN l 3]
theorem G8_len (h l : Nat) : (G8 h l).length = 8 := rfl
theorem grpN_lt (x i : Nat) : grpN x i < 65536 := Nat.mod_lt _ (by decide)
theorem G8_lt (h l : Nat) : ∀ x ∈ G8 h l, x < 65536 := by
  intro x hx
  simp only [G8, List.mem_cons, List.not_mem_nil, or_false] at hx
  rcases hx with rfl | rfl | rfl | rfl | rfl | rfl | rfl | rfl <;> exact grpN_lt _ _
theorem grp_num {x : Nat} (hx : x < 18446744073709551616) : ((grpN x 0 * 65536 + grpN x 1) * 65536 + grpN x 2) * 65536 + grpN x 3 = x := by
  have e0 : grpN x 0 = x / 281474976710656 % 65536 := rfl
  have e1 : grpN x 1 = x / 4294967296 % 65536 := rfl
  have e2 : grpN x 2 = x / 65536 % 65536 := rfl
  have e3 : grpN x 3 = x / 1 % 65536 := rfl
  rw [e0, e1, e2, e3]
  omega
def putN (p : Nat × Nat) (x : Nat) : Nat × Nat := ((p.1 * 65536 + p.2 / 281474976710656) % 18446744073709551616, p.2 * 65536 % 18446744073709551616 + x)
def numN (p : Nat × Nat) : Nat := p.1 * 18446744073709551616 + p.2
theorem putN_lt {p : Nat × Nat} {x : Nat} (hx : x < 65536) : (putN p x).1 < 18446744073709551616 ∧ (putN p x).2 < 18446744073709551616 := by
  unfold putN
  simp only
  omega
theorem putN_num {p : Nat × Nat} {x : Nat} (h : numN p < 5192296858534827628530496329220096) : numN (putN p x) = numN p * 65536 + x := by
  unfold numN putN at *
  simp only
  omega
theorem numN_inj {p q : Nat × Nat} (hp : p.2 < 18446744073709551616) (hq : q.2 < 18446744073709551616) (h : numN p = numN q) : p = q := by
  unfold numN at h
  exact Prod.ext (by omega) (by omega)
theorem putN_fold : ∀ (L : List Nat) (p : Nat × Nat), (∀ x ∈ L, x < 65536) → p.1 < 18446744073709551616 → p.2 < 18446744073709551616 → (L.foldl putN p).1 < 18446744073709551616 ∧ (L.foldl putN p).2 < 18446744073709551616
  | [], p, _, h1, h2 => ⟨h1, h2⟩
  | x :: L, p, h, _, _ => by
    have := putN_lt (p := p) (h x (by simp))
    exact putN_fold L _ (fun y hy => h y (by simp [hy])) this.1 this.2
set_option maxRecDepth 100000 in
theorem putN_G8 {h l : Nat} (hh : h < 18446744073709551616) (hl : l < 18446744073709551616) : (G8 h l).foldl putN (0, 0) = (h, l) := by
  have b0 := grpN_lt h 0
  have b1 := grpN_lt h 1
  have b2 := grpN_lt h 2
  have b3 := grpN_lt h 3
  have c0 := grpN_lt l 0
  have c1 := grpN_lt l 1
  have c2 := grpN_lt l 2
  have c3 := grpN_lt l 3
  have eh := grp_num hh
  have el := grp_num hl
  refine numN_inj (putN_fold _ _ (G8_lt h l) (by omega) (by omega)).2 hl ?_
  unfold G8
  simp only [List.foldl_cons, List.foldl_nil]
  generalize grpN h 0 = x0 at *
  generalize grpN h 1 = x1 at *
  generalize grpN h 2 = x2 at *
  generalize grpN h 3 = x3 at *
  generalize grpN l 0 = y0 at *
  generalize grpN l 1 = y1 at *
  generalize grpN l 2 = y2 at *
  generalize grpN l 3 = y3 at *
  have s0 : numN ((0, 0) : Nat × Nat) = 0 := rfl
  have s1 := putN_num (p := (0, 0)) (x := x0) (by rw [s0]; omega)
  rw [s0] at s1
  have s2 := putN_num (x := x1) (show numN (putN (0, 0) x0) < _ by rw [s1]; omega)
  rw [s1] at s2
  have s3 := putN_num (x := x2) (show numN (putN (putN (0, 0) x0) x1) < _ by rw [s2]; omega)
  rw [s2] at s3
  have s4 := putN_num (x := x3) (show numN (putN (putN (putN (0, 0) x0) x1) x2) < _ by rw [s3]; omega)
  rw [s3] at s4
  have s5 := putN_num (x := y0) (show numN (putN (putN (putN (putN (0, 0) x0) x1) x2) x3) < _ by rw [s4]; omega)
  rw [s4] at s5
  have s6 := putN_num (x := y1) (show numN (putN (putN (putN (putN (putN (0, 0) x0) x1) x2) x3) y0) < _ by rw [s5]; omega)
  rw [s5] at s6
  have s7 := putN_num (x := y2) (show numN (putN (putN (putN (putN (putN (putN (0, 0) x0) x1) x2) x3) y0) y1) < _ by rw [s6]; omega)
  rw [s6] at s7
  have s8 := putN_num (x := y3) (show numN (putN (putN (putN (putN (putN (putN (putN (0, 0) x0) x1) x2) x3) y0) y1) y2) < _ by rw [s7]; omega)
  rw [s7] at s8
  rw [s8]
  clear s0 s1 s2 s3 s4 s5 s6 s7 s8 b0 b1 b2 b3 c0 c1 c2 c3
  subst eh el
  unfold numN
  simp only [Nat.zero_mul, Nat.zero_add, Nat.add_mul, Nat.mul_assoc, Nat.reduceMul, Nat.add_assoc]
def zrN : List Nat → Nat
  | [] => 0
  | x :: l => if x = 0 then zrN l + 1 else 0
theorem zrN_le : ∀ L : List Nat, zrN L ≤ L.length
  | [] => Nat.le_refl _
  | x :: L => by
    have := zrN_le L
    unfold zrN
    split <;> simp <;> omega
theorem zrN_take : ∀ (L : List Nat) (n : Nat), n ≤ zrN L → L.take n = List.replicate n 0
  | L, 0, _ => by simp
  | [], n + 1, h => by simp [zrN] at h
  | x :: L, n + 1, h => by
    unfold zrN at h
    split at h
    · rename_i hx
      rw [List.take_succ_cons, zrN_take L n (by omega), hx, List.replicate_succ]
    · omega
/-- The first longest run of zeros among the first k places: where, and how long (1 if there is none of 2). -/
def lrun (L : List Nat) : Nat → Nat × Nat
  | 0 => (0, 1)
  | k + 1 => if (lrun L k).2 < zrN (L.drop k) then (k, zrN (L.drop k)) else lrun L k
theorem lrun_le {L : List Nat} (h : L.length = 8) : ∀ k, k ≤ 8 → (lrun L k).2 ≤ 8 ∧ ((lrun L k).2 = 1 ∨ ((lrun L k).1 + (lrun L k).2 ≤ 8 ∧ (lrun L k).2 ≤ zrN (L.drop (lrun L k).1))) ∧ (lrun L k).1 ≤ 8
  | 0, _ => ⟨by simp [lrun], .inl rfl, by simp [lrun]⟩
  | k + 1, hk => by
    have ih := lrun_le h k (by omega)
    have hz := zrN_le (L.drop k)
    simp at hz
    unfold lrun
    split
    · exact ⟨by show zrN _ ≤ 8; omega, .inr ⟨by show k + zrN _ ≤ 8; omega, Nat.le_refl _⟩, by show k ≤ 8; omega⟩
    · exact ih
/-- Groups in hexadecimal with colons. -/
def hj (L : List Nat) : List UInt8 := Lib.join (L.map (dgs 16)) [58]
def text6L (L : List Nat) : List UInt8 := if (lrun L 8).2 < 2 then hj L else hj (L.take (lrun L 8).1) ++ 58 :: 58 :: hj (L.drop ((lrun L 8).1 + (lrun L 8).2))
def b4 (l i : Nat) : Nat := l / 2 ^ (24 - 8 * i) % 256
def t4 (l : Nat) : List UInt8 := Lib.join [dgs 10 (b4 l 0), dgs 10 (b4 l 1), dgs 10 (b4 l 2), dgs 10 (b4 l 3)] [46]
/-- The string of an address. -/
def addrT (f h l : Nat) : List UInt8 := if f = 6 then text6L (G8 h l) else t4 l
/-! ### Reading numbers as the program does -/
/-- A digit, of letters of any size. -/
def pdig (c : UInt8) : Option Nat :=
  if 48 ≤ c.toNat ∧ c.toNat ≤ 57 then some (c.toNat - 48)
  else if 97 ≤ (c.toNat ||| 32) ∧ (c.toNat ||| 32) ≤ 122 then some ((c.toNat ||| 32) - 87)
  else none
inductive PEnd where
  | ok (n : Nat)
  | synt
  | over
def puF (b M : Nat) : Nat → List UInt8 → PEnd
  | n, [] => .ok n
  | n, c :: l => match pdig c with
    | none => .synt
    | some d => if b ≤ d then .synt else if M < n * b + d then .over else puF b M (n * b + d) l
def pu (b M : Nat) (l : List UInt8) : PEnd := if l = [] then .synt else puF b M 0 l
def PEnd.val (M : Nat) : PEnd → Nat
  | .ok n => n
  | .synt => 0
  | .over => M
def PEnd.good : PEnd → Bool
  | .ok _ => true
  | _ => false
def pv (b M : Nat) (l : List UInt8) : Nat := (pu b M l).val M
theorem puF_le {b M : Nat} : ∀ (l : List UInt8) (n m : Nat), n ≤ M → puF b M n l = .ok m → m ≤ M
  | [], n, m, h, e => by simp only [puF, PEnd.ok.injEq] at e; omega
  | c :: l, n, m, h, e => by
    simp only [puF] at e
    split at e
    · cases e
    · split at e
      · cases e
      · split at e
        · cases e
        · exact puF_le l _ m (by omega) e
theorem pv_le {b M : Nat} (l : List UInt8) : pv b M l ≤ M := by
  unfold pv pu
  split
  · exact Nat.zero_le _
  · cases h : puF b M 0 l with
    | ok n => exact puF_le l 0 n (Nat.zero_le _) h
    | synt => exact Nat.zero_le _
    | over => exact Nat.le_refl _
theorem pdig_dval {b d : Nat} {c : UInt8} (h : dval b c = some d) : pdig c = some d ∧ d < b := by
  obtain ⟨rfl, h1, h2⟩ := dval_eq h
  refine ⟨?_, h1⟩
  have e := dch_toNat h2
  unfold pdig
  rw [e]
  have key : ∀ k : Fin 16, (if 48 ≤ (if k.val < 10 then 48 + k.val else 87 + k.val) ∧ (if k.val < 10 then 48 + k.val else 87 + k.val) ≤ 57 then some ((if k.val < 10 then 48 + k.val else 87 + k.val) - 48) else if 97 ≤ ((if k.val < 10 then 48 + k.val else 87 + k.val) ||| 32) ∧ ((if k.val < 10 then 48 + k.val else 87 + k.val) ||| 32) ≤ 122 then some (((if k.val < 10 then 48 + k.val else 87 + k.val) ||| 32) - 87) else none) = some k.val := by decide
  exact key ⟨d, h2⟩
theorem valF_ge {b : Nat} (hb : 1 ≤ b) : ∀ (l : List UInt8) (n m : Nat), valF b n l = some m → n ≤ m
  | [], n, m, h => by simp only [valF, Option.some.injEq] at h; omega
  | c :: l, n, m, h => by
    simp only [valF] at h
    split at h
    · have := valF_ge hb l _ m h
      have : n * 1 ≤ n * b := Nat.mul_le_mul_left n hb
      omega
    · cases h
theorem puF_val {b M : Nat} (hb : 1 ≤ b) : ∀ (l : List UInt8) (n m : Nat), valF b n l = some m → m ≤ M → puF b M n l = .ok m
  | [], n, m, h, _ => by simp only [valF, Option.some.injEq] at h; subst h; rfl
  | c :: l, n, m, h, hm => by
    simp only [valF] at h
    split at h
    · rename_i d hd
      obtain ⟨h1, h2⟩ := pdig_dval hd
      have h3 := valF_ge hb l _ m h
      simp only [puF, h1]
      rw [if_neg (by omega), if_neg (by omega)]
      exact puF_val hb l _ m h hm
    · cases h
theorem pu_dgs {b M n : Nat} (hb : 2 ≤ b) (hb' : b ≤ 16) (hn : n < 18446744073709551616) (h : n ≤ M) : pu b M (dgs b n) = .ok n := by
  unfold pu
  rw [if_neg dgs_ne]
  exact puF_val (by omega) _ 0 n (valF_dgs hb hb' n hn) h
theorem pv_dgs {b M n : Nat} (hb : 2 ≤ b) (hb' : b ≤ 16) (hn : n < 18446744073709551616) (h : n ≤ M) : pv b M (dgs b n) = n := by
  unfold pv
  rw [pu_dgs hb hb' hn h]
  rfl
/-! ### Addresses from strings as the program reads them -/
def st4 (a : Nat) (x : List UInt8) : Nat := (a * 256 + pv 10 255 x) % 4294967296
def parse4L (s : List UInt8) : Nat := (spl 46 s).foldl st4 0
def fieldsL (s : List UInt8) : List Nat := if s = [] then [] else (spl 58 s).map (pv 16 65535)
def parse6L (s : List UInt8) : Nat × Nat := match cut2 s with
  | some (a, b) => (fieldsL a ++ List.replicate (8 - ((fieldsL a).length + (fieldsL b).length)) 0 ++ fieldsL b).foldl putN (0, 0)
  | none => (fieldsL s).foldl putN (0, 0)
theorem fields_hj (L : List Nat) (h : ∀ x ∈ L, x < 65536) : fieldsL (hj L) = L := by
  unfold fieldsL hj
  cases L with
  | nil => simp [Lib.join_nil]
  | cons x L =>
    have hne : Lib.join (List.map (dgs 16) (x :: L)) [58] ≠ [] := by
      rw [List.map_cons, Lib.join_cons]
      intro e
      exact dgs_ne (List.append_eq_nil_iff.1 e).1
    rw [if_neg hne, spl_join _ (by simp) ?_, List.map_map]
    · have : ∀ y ∈ x :: L, (pv 16 65535 ∘ dgs 16) y = y := fun y hy => pv_dgs (by omega) (by omega) (by have := h y hy; omega) (by have := h y hy; omega)
      rw [List.map_congr_left this]
      simp
    · intro p hp
      obtain ⟨y, hy, rfl⟩ := List.mem_map.1 hp
      exact dgs_no (by omega) (by omega) (by have := h y hy; omega) (by decide)
theorem hj_parts (L : List Nat) (h : ∀ x ∈ L, x < 65536) : ∀ p ∈ L.map (dgs 16), (58 : UInt8) ∉ p ∧ p ≠ [] := by
  intro p hp
  obtain ⟨y, hy, rfl⟩ := List.mem_map.1 hp
  exact ⟨dgs_no (by omega) (by omega) (by have := h y hy; omega) (by decide), dgs_ne⟩
theorem parse6_text {h l : Nat} (hh : h < 18446744073709551616) (hl : l < 18446744073709551616) : parse6L (text6L (G8 h l)) = (h, l) := by
  have hG := G8_lt h l
  have hP := putN_G8 hh hl
  have hlen := G8_len h l
  generalize G8 h l = L at *
  unfold text6L
  split
  · unfold parse6L
    have := cut2_join (L.map (dgs 16)) [] (hj_parts L hG)
    rw [List.append_nil] at this
    have e : cut2 (hj L) = none := by unfold hj; rw [this]; rfl
    rw [e, fields_hj L hG]
    exact hP
  · rename_i h2
    obtain ⟨h3, h4, h5⟩ := lrun_le hlen 8 (by omega)
    obtain ⟨h4, h6⟩ := h4.resolve_left (by omega)
    generalize (lrun L 8).1 = at' at *
    generalize (lrun L 8).2 = n at *
    have hT : ∀ x ∈ L.take at', x < 65536 := fun x hx => hG x (List.mem_of_mem_take hx)
    have hD : ∀ x ∈ L.drop (at' + n), x < 65536 := fun x hx => hG x (List.mem_of_mem_drop hx)
    have e : cut2 (hj (L.take at') ++ 58 :: 58 :: hj (L.drop (at' + n))) = some (hj (L.take at'), hj (L.drop (at' + n))) := by
      unfold hj
      rw [cut2_join _ _ (hj_parts _ hT)]
      simp [cut2]
    unfold parse6L
    rw [e]
    simp only
    rw [fields_hj _ hT, fields_hj _ hD]
    have e2 : 8 - ((L.take at').length + (L.drop (at' + n)).length) = n := by simp; omega
    rw [e2, ← zrN_take _ n h6]
    have e3 : L.take at' ++ (L.drop at').take n ++ L.drop (at' + n) = L := by
      rw [List.append_assoc, ← List.drop_drop, List.take_append_drop, List.take_append_drop]
    rw [e3]
    exact hP
theorem b4_lt (l i : Nat) : b4 l i < 256 := Nat.mod_lt _ (by decide)
theorem parse4_text {l : Nat} (hl : l < 4294967296) : parse4L (t4 l) = l := by
  unfold parse4L t4
  have hno : ∀ i, (46 : UInt8) ∉ dgs 10 (b4 l i) := fun i => dgs_no (by omega) (by omega) (by have := b4_lt l i; omega) (by decide)
  have hv : ∀ i, pv 10 255 (dgs 10 (b4 l i)) = b4 l i := fun i => pv_dgs (by omega) (by omega) (by have := b4_lt l i; omega) (by have := b4_lt l i; omega)
  rw [spl_join _ (by simp) (by intro p hp; simp only [List.mem_cons, List.not_mem_nil, or_false] at hp; rcases hp with rfl | rfl | rfl | rfl <;> exact hno _)]
  simp only [List.foldl_cons, List.foldl_nil, st4, hv]
  have e0 : b4 l 0 = l / 16777216 % 256 := rfl
  have e1 : b4 l 1 = l / 65536 % 256 := rfl
  have e2 : b4 l 2 = l / 256 % 256 := rfl
  have e3 : b4 l 3 = l / 1 % 256 := rfl
  rw [e0, e1, e2, e3]
  omega
theorem text6_colon (L : List Nat) (h : L.length = 8) : (58 : UInt8) ∈ text6L L := by
  unfold text6L
  split
  · match L, h with
    | x :: y :: L, _ =>
      unfold hj
      rw [List.map_cons, List.map_cons, join_cons2]
      simp
  · simp
theorem t4_no (l : Nat) : (58 : UInt8) ∉ t4 l := by
  intro h
  unfold t4 at h
  rcases mem_join _ h with h | ⟨p, hp, h⟩
  · simp at h
  · simp only [List.mem_cons, List.not_mem_nil, or_false] at hp
    rcases hp with rfl | rfl | rfl | rfl <;> exact dgs_no (by omega) (by omega) (by have := b4_lt l 0; have := b4_lt l 1; have := b4_lt l 2; have := b4_lt l 3; omega) (by decide) h
end Go.Proofs.YtbnjijffkjcmcaaGreatDoor.AL
namespace Go.Proofs.YtbnjijffkjcmcaaGreatDoor.AL
open Go
/-! ### What is read is what is written -/
def vA (f h l : Nat) : Prop := (f = 6 ∧ h < 18446744073709551616 ∧ l < 18446744073709551616) ∨ (f = 4 ∧ h = 0 ∧ l < 4294967296)
theorem join_len (k : Nat) (c : UInt8) : ∀ (ps : List (List UInt8)), (∀ p ∈ ps, p.length ≤ k) → (Lib.join ps [c]).length ≤ (k + 1) * ps.length
  | [], _ => by simp [Lib.join_nil]
  | [p], h => by
    rw [Lib.join_one]
    have := h p (by simp)
    simp only [List.length_cons, List.length_nil]
    omega
  | p :: q :: ps, h => by
    rw [join_cons2]
    have h1 := h p (by simp)
    have h2 := join_len k c (q :: ps) (fun x hx => h x (by simp [hx]))
    simp only [List.length_append, List.length_cons, List.length_nil] at h2 ⊢
    rw [Nat.mul_add (k + 1) (ps.length + 1) 1]
    omega
theorem hj_len (L : List Nat) (h : ∀ x ∈ L, x < 65536) : (hj L).length ≤ 5 * L.length := by
  have := join_len 4 58 (L.map (dgs 16)) (by
    intro p hp
    obtain ⟨y, hy, rfl⟩ := List.mem_map.1 hp
    have := h y hy
    exact dgs_len (by omega) 3 y (by omega) (by show y < 65536; omega))
  simpa [hj] using this
theorem text6_len (L : List Nat) (h : L.length = 8) (hx : ∀ x ∈ L, x < 65536) : (text6L L).length ≤ 42 := by
  have hr := lrun_le h 8 (by omega)
  unfold text6L
  split
  · have := hj_len L hx
    omega
  · have h4 := hr.2.1.resolve_left (by omega)
    have h1 := hj_len (L.take (lrun L 8).1) (fun x hm => hx x (List.mem_of_mem_take hm))
    have h2 := hj_len (L.drop ((lrun L 8).1 + (lrun L 8).2)) (fun x hm => hx x (List.mem_of_mem_drop hm))
    simp only [List.length_append, List.length_cons, List.length_take, List.length_drop] at h1 h2 ⊢
    omega
theorem t4_len (l : Nat) : (t4 l).length ≤ 16 := by
  unfold t4
  have := join_len 3 46 [dgs 10 (b4 l 0), dgs 10 (b4 l 1), dgs 10 (b4 l 2), dgs 10 (b4 l 3)] (by
    intro p hp
    simp only [List.mem_cons, List.not_mem_nil, or_false] at hp
    have key : ∀ i, (dgs 10 (b4 l i)).length ≤ 3 := fun i => dgs_len (by omega) 2 _ (by have := b4_lt l i; omega) (by have := b4_lt l i; omega)
    rcases hp with rfl | rfl | rfl | rfl <;> exact key _)
  exact this
theorem addrT_len (f h l : Nat) : (addrT f h l).length ≤ 42 := by
  unfold addrT
  split
  · exact text6_len _ (G8_len h l) (G8_lt h l)
  · have := t4_len l; omega
/-- What the program reads as an address. -/
def pa (s : List UInt8) : Option (Nat × Nat × Nat) :=
  if 50 < s.length then none
  else if s.contains 58 then (if addrT 6 (parse6L s).1 (parse6L s).2 = s then some (6, (parse6L s).1, (parse6L s).2) else none)
  else if addrT 4 0 (parse4L s) = s then some (4, 0, parse4L s) else none
theorem foldl_bd : ∀ (L : List (List UInt8)) (a : Nat), a < 4294967296 → L.foldl st4 a < 4294967296
  | [], a, h => h
  | x :: L, a, h => foldl_bd L _ (by unfold st4; exact Nat.mod_lt _ (by decide))
theorem parse4_lt (s : List UInt8) : parse4L s < 4294967296 := foldl_bd _ 0 (by decide)
theorem fields_lt (s : List UInt8) : ∀ x ∈ fieldsL s, x < 65536 := by
  unfold fieldsL
  split
  · simp
  · intro x hx
    obtain ⟨p, _, rfl⟩ := List.mem_map.1 hx
    have := pv_le (b := 16) (M := 65535) p
    omega
theorem parse6_lt (s : List UInt8) : (parse6L s).1 < 18446744073709551616 ∧ (parse6L s).2 < 18446744073709551616 := by
  unfold parse6L
  split
  · refine putN_fold _ _ ?_ (by decide) (by decide)
    intro x hx
    simp only [List.mem_append, List.mem_replicate] at hx
    rcases hx with (hx | hx) | hx
    · exact fields_lt _ x hx
    · omega
    · exact fields_lt _ x hx
  · exact putN_fold _ _ (fields_lt s) (by decide) (by decide)
theorem pa_iff {s : List UInt8} {f h l : Nat} : pa s = some (f, h, l) ↔ vA f h l ∧ addrT f h l = s := by
  constructor
  · intro e
    unfold pa at e
    split at e
    · cases e
    · split at e
      · split at e
        · rename_i h1
          cases e
          exact ⟨.inl ⟨rfl, parse6_lt s⟩, h1⟩
        · cases e
      · split at e
        · rename_i h1
          cases e
          exact ⟨.inr ⟨rfl, rfl, parse4_lt s⟩, h1⟩
        · cases e
  · rintro ⟨hv, rfl⟩
    have hlen := addrT_len f h l
    unfold pa
    rw [if_neg (by omega)]
    rcases hv with ⟨rfl, hh, hl⟩ | ⟨rfl, rfl, hl⟩
    · have e : addrT 6 h l = text6L (G8 h l) := rfl
      have hp := parse6_text hh hl
      rw [if_pos (by rw [e]; simpa using text6_colon _ (G8_len h l)), if_pos (by rw [e, hp]; exact e)]
      rw [e, hp]
    · have e : addrT 4 0 l = t4 l := rfl
      have hp := parse4_text hl
      rw [if_neg (by rw [e]; simpa using t4_no l), if_pos (by rw [e, hp]; exact e)]
      rw [e, hp]
theorem pa_text {f h l : Nat} (hv : vA f h l) : pa (addrT f h l) = some (f, h, l) := pa_iff.2 ⟨hv, rfl⟩
theorem addrT_inj {f h l f' h' l' : Nat} (hv : vA f h l) (hv' : vA f' h' l') (e : addrT f h l = addrT f' h' l') : f = f' ∧ h = h' ∧ l = l' := by
  have h1 := pa_text hv
  rw [e, pa_text hv'] at h1
  simp only [Option.some.injEq, Prod.mk.injEq] at h1
  exact ⟨h1.1.symm, h1.2.1.symm, h1.2.2.symm⟩
/-! ### The reference's reading -/
def rgs (b lim : Nat) : List (List UInt8) → Option (List Nat)
  | [] => some []
  | p :: ps => if (rnum b lim p).2 = true then (rgs b lim ps).map ((rnum b lim p).1 :: ·) else none
def rgr (c : UInt8) (b lim : Nat) (s : List UInt8) : Option (List Nat) := if s = [] then some [] else rgs b lim (spl c s)
theorem rgs_iff {b lim : Nat} (hb : 2 ≤ b) (hb' : b ≤ 16) (hlim : lim < b ^ 10) (hl64 : lim < 18446744073709551616) : ∀ {ps : List (List UInt8)} {L : List Nat}, rgs b lim ps = some L ↔ ps = L.map (dgs b) ∧ ∀ x ∈ L, x ≤ lim
  | [], L => by
    simp only [rgs, Option.some.injEq]
    constructor
    · rintro rfl; simp
    · rintro ⟨h, _⟩
      cases L with
      | nil => rfl
      | cons x L => simp at h
  | p :: ps, L => by
    have ih := fun L => rgs_iff hb hb' hlim hl64 (ps := ps) (L := L)
    have hn := fun n => rnum_iff hb hb' hlim hl64 (l := p) (n := n)
    simp only [rgs]
    constructor
    · intro h
      split at h
      · rename_i h1
        simp only [Option.map_eq_some_iff] at h
        obtain ⟨M, h2, rfl⟩ := h
        obtain ⟨e, h3⟩ := (ih M).1 h2
        obtain ⟨e2, h4⟩ := (hn (rnum b lim p).1).1 (by rw [← h1])
        refine ⟨by rw [List.map_cons, ← e2, ← e], ?_⟩
        intro x hx
        rcases List.mem_cons.1 hx with rfl | hx
        · exact h4
        · exact h3 x hx
      · cases h
    · rintro ⟨h1, h2⟩
      cases L with
      | nil => simp at h1
      | cons x L =>
        simp only [List.map_cons, List.cons.injEq] at h1
        have h3 := (hn x).2 ⟨h1.1, h2 x (by simp)⟩
        have h4 := (ih L).2 ⟨h1.2, fun y hy => h2 y (by simp [hy])⟩
        rw [h3, h4]
        rfl
theorem rgr_some {c : UInt8} {b lim : Nat} (hb : 2 ≤ b) (hb' : b ≤ 16) (hlim : lim < b ^ 10) (hl64 : lim < 18446744073709551616) {s : List UInt8} {L : List Nat} (h : rgr c b lim s = some L) :
    s = Lib.join (L.map (dgs b)) [c] ∧ ∀ x ∈ L, x ≤ lim := by
  unfold rgr at h
  split at h
  · rename_i hs
    cases h
    exact ⟨by rw [hs]; rfl, by simp⟩
  · obtain ⟨h1, h2⟩ := (rgs_iff hb hb' hlim hl64).1 h
    exact ⟨by rw [← h1, join_spl], h2⟩
theorem rgr_text {c : UInt8} {b lim : Nat} (hb : 2 ≤ b) (hb' : b ≤ 16) (hlim : lim < b ^ 10) (hl64 : lim < 18446744073709551616) (hc : c.toNat < 48 ∨ (57 < c.toNat ∧ c.toNat < 97) ∨ 102 < c.toNat) (L : List Nat) (h : ∀ x ∈ L, x ≤ lim) :
    rgr c b lim (Lib.join (L.map (dgs b)) [c]) = some L := by
  unfold rgr
  cases L with
  | nil => rw [if_pos (by rfl)]
  | cons x L =>
    have hne : Lib.join (List.map (dgs b) (x :: L)) [c] ≠ [] := by
      rw [List.map_cons, Lib.join_cons]
      intro e
      exact dgs_ne (List.append_eq_nil_iff.1 e).1
    rw [if_neg hne, spl_join _ (by simp) ?_]
    · exact (rgs_iff hb hb' hlim hl64).2 ⟨rfl, h⟩
    · intro p hp
      obtain ⟨y, hy, rfl⟩ := List.mem_map.1 hp
      exact dgs_no hb hb' (by have := h y hy; omega) hc
def r6 (s : List UInt8) : Option (List Nat) := match cut2 s with
  | some (a, b) => match rgr 58 16 65535 a with
    | some x => match rgr 58 16 65535 b with
      | some y => some (x ++ List.replicate (8 - (x.length + y.length)) 0 ++ y)
      | none => none
    | none => none
  | none => rgr 58 16 65535 s
def ra6 (s : List UInt8) : Option (Nat × Nat × Nat) := match r6 s with
  | some L => if L.length = 8 ∧ addrT 6 (L.foldl putN (0, 0)).1 (L.foldl putN (0, 0)).2 = s then some (6, L.foldl putN (0, 0)) else none
  | none => none
def four : Option (List Nat) → Option Nat
  | some [a, b, c, d] => some (((a * 256 + b) * 256 + c) * 256 + d)
  | _ => none
/-- What the reference reads as an address. -/
def ra (s : List UInt8) : Option (Nat × Nat × Nat) :=
  if 100 < s.length then none else match four (rgr 46 10 255 s) with
    | some n => some (4, 0, n)
    | none => ra6 s
theorem four_some {o : Option (List Nat)} {n : Nat} (h : four o = some n) : ∃ a b c d, o = some [a, b, c, d] ∧ n = ((a * 256 + b) * 256 + c) * 256 + d := by
  unfold four at h
  split at h
  · rename_i a b c d
    cases h
    exact ⟨a, b, c, d, rfl, rfl⟩
  · cases h
theorem b4_of {a b c d : Nat} (ha : a ≤ 255) (hb : b ≤ 255) (hc : c ≤ 255) (hd : d ≤ 255) :
    b4 (((a * 256 + b) * 256 + c) * 256 + d) 0 = a ∧ b4 (((a * 256 + b) * 256 + c) * 256 + d) 1 = b ∧ b4 (((a * 256 + b) * 256 + c) * 256 + d) 2 = c ∧ b4 (((a * 256 + b) * 256 + c) * 256 + d) 3 = d := by
  refine ⟨?_, ?_, ?_, ?_⟩
  · show _ / 16777216 % 256 = _; omega
  · show _ / 65536 % 256 = _; omega
  · show _ / 256 % 256 = _; omega
  · show _ / 1 % 256 = _; omega
theorem r6_lt {s : List UInt8} {L : List Nat} (h : r6 s = some L) : ∀ x ∈ L, x < 65536 := by
  unfold r6 at h
  split at h
  · split at h
    · rename_i x hx
      split at h
      · rename_i y hy
        cases h
        intro z hz
        simp only [List.mem_append, List.mem_replicate] at hz
        rcases hz with (hz | hz) | hz
        · have := (rgr_some (by omega) (by omega) (by decide) (by decide) hx).2 z hz; omega
        · omega
        · have := (rgr_some (by omega) (by omega) (by decide) (by decide) hy).2 z hz; omega
      · cases h
    · cases h
  · intro z hz
    have := (rgr_some (by omega) (by omega) (by decide) (by decide) h).2 z hz
    omega
theorem r6_text {h l : Nat} (hh : h < 18446744073709551616) (hl : l < 18446744073709551616) : r6 (text6L (G8 h l)) = some (G8 h l) := by
  have hG := G8_lt h l
  have hlen := G8_len h l
  generalize G8 h l = L at *
  have key : ∀ M : List Nat, (∀ x ∈ M, x < 65536) → rgr 58 16 65535 (hj M) = some M := fun M hM => rgr_text (by omega) (by omega) (by decide) (by decide) (by decide) M (fun x hx => by have := hM x hx; omega)
  unfold text6L
  split
  · unfold r6
    have := cut2_join (L.map (dgs 16)) [] (hj_parts L hG)
    rw [List.append_nil] at this
    have e : cut2 (hj L) = none := by unfold hj; rw [this]; rfl
    rw [e]
    exact key L hG
  · rename_i h2
    obtain ⟨h3, h4, h5⟩ := lrun_le hlen 8 (by omega)
    obtain ⟨h4, h6⟩ := h4.resolve_left (by omega)
    generalize (lrun L 8).1 = at' at *
    generalize (lrun L 8).2 = n at *
    have hT : ∀ x ∈ L.take at', x < 65536 := fun x hx => hG x (List.mem_of_mem_take hx)
    have hD : ∀ x ∈ L.drop (at' + n), x < 65536 := fun x hx => hG x (List.mem_of_mem_drop hx)
    have e : cut2 (hj (L.take at') ++ 58 :: 58 :: hj (L.drop (at' + n))) = some (hj (L.take at'), hj (L.drop (at' + n))) := by
      unfold hj
      rw [cut2_join _ _ (hj_parts _ hT)]
      simp [cut2]
    unfold r6
    rw [e]
    simp only
    rw [key _ hT, key _ hD]
    simp only
    have e2 : 8 - ((L.take at').length + (L.drop (at' + n)).length) = n := by simp; omega
    rw [e2, ← zrN_take _ n h6]
    have e3 : L.take at' ++ (L.drop at').take n ++ L.drop (at' + n) = L := by
      rw [List.append_assoc, ← List.drop_drop, List.take_append_drop, List.take_append_drop]
    rw [e3]
theorem ra_eq (s : List UInt8) : ra s = pa s := by
  apply Option.ext
  rintro ⟨f, h, l⟩
  rw [pa_iff]
  constructor
  · intro e
    unfold ra at e
    split at e
    · cases e
    · split at e
      · rename_i n hn
        cases e
        obtain ⟨a, b, c, d, h1, rfl⟩ := four_some hn
        obtain ⟨h2, h3⟩ := rgr_some (by omega) (by omega) (by decide) (by decide) h1
        have ha := h3 a (by simp)
        have hb := h3 b (by simp)
        have hc := h3 c (by simp)
        have hd := h3 d (by simp)
        obtain ⟨k0, k1, k2, k3⟩ := b4_of ha hb hc hd
        refine ⟨.inr ⟨rfl, rfl, by omega⟩, ?_⟩
        show t4 _ = s
        unfold t4
        rw [k0, k1, k2, k3, h2]
        rfl
      · unfold ra6 at e
        split at e
        · rename_i L hL
          split at e
          · rename_i h1
            simp only [Option.some.injEq] at e
            have hb := putN_fold L (0, 0) (r6_lt hL) (by decide) (by decide)
            have e1 : f = 6 := by have := congrArg Prod.fst e; exact this.symm
            have e2 : (L.foldl putN (0, 0)) = (h, l) := by have := congrArg Prod.snd e; exact this
            rw [e2] at hb h1
            subst e1
            exact ⟨.inl ⟨rfl, hb⟩, h1.2⟩
          · cases e
        · cases e
  · rintro ⟨hv, rfl⟩
    have hlen := addrT_len f h l
    unfold ra
    rw [if_neg (by omega)]
    rcases hv with ⟨rfl, hh, hl⟩ | ⟨rfl, rfl, hl⟩
    · have e : addrT 6 h l = text6L (G8 h l) := rfl
      rw [e]
      have hf : four (rgr 46 10 255 (text6L (G8 h l))) = none := by
        cases hx : four (rgr 46 10 255 (text6L (G8 h l))) with
        | none => rfl
        | some n =>
          obtain ⟨a, b, c, d, h1, _⟩ := four_some hx
          obtain ⟨h2, h3⟩ := rgr_some (by omega) (by omega) (by decide) (by decide) h1
          have hm := text6_colon _ (G8_len h l)
          rw [h2] at hm
          rcases mem_join _ hm with hm | ⟨p, hp, hm⟩
          · simp at hm
          · obtain ⟨y, hy, rfl⟩ := List.mem_map.1 hp
            exact absurd hm (dgs_no (by omega) (by omega) (by have := h3 y hy; omega) (by decide))
      rw [hf]
      simp only
      unfold ra6
      rw [r6_text hh hl]
      simp only
      rw [putN_G8 hh hl, if_pos ⟨G8_len h l, e⟩]
    · have e : addrT 4 0 l = t4 l := rfl
      rw [e]
      have h1 : rgr 46 10 255 (t4 l) = some [b4 l 0, b4 l 1, b4 l 2, b4 l 3] := by
        refine rgr_text (b := 10) (by omega) (by omega) (by decide) (by decide) (by decide) [b4 l 0, b4 l 1, b4 l 2, b4 l 3] ?_
        intro x hx
        simp only [List.mem_cons, List.not_mem_nil, or_false] at hx
        rcases hx with rfl | rfl | rfl | rfl <;> (have := b4_lt l 0; have := b4_lt l 1; have := b4_lt l 2; have := b4_lt l 3; omega)
      rw [h1]
      simp only [four]
      congr 2
      have e0 : b4 l 0 = l / 16777216 % 256 := rfl
      have e1 : b4 l 1 = l / 65536 % 256 := rfl
      have e2 : b4 l 2 = l / 256 % 256 := rfl
      have e3 : b4 l 3 = l / 1 % 256 := rfl
      rw [e0, e1, e2, e3]
      congr 1
      omega
/-! ### The longest run of zeros, as the reference looks for it -/
def zr (L : List Nat) (i n : Nat) : Prop := n ≤ zrN (L.drop i)
theorem lrun_spec (L : List Nat) : ∀ k, (∀ i, i < k → zrN (L.drop i) ≤ (lrun L k).2) ∧ ((lrun L k) = (0, 1) ∨ ((lrun L k).1 < k ∧ zrN (L.drop (lrun L k).1) = (lrun L k).2 ∧ 2 ≤ (lrun L k).2 ∧ ∀ i, i < (lrun L k).1 → zrN (L.drop i) < (lrun L k).2))
  | 0 => ⟨by omega, .inl rfl⟩
  | k + 1 => by
    obtain ⟨h1, h2⟩ := lrun_spec L k
    have h0 : 1 ≤ (lrun L k).2 := by
      rcases h2 with h2 | h2
      · rw [h2]; exact Nat.le_refl _
      · omega
    unfold lrun
    split
    · rename_i h
      refine ⟨fun i hi => ?_, .inr ⟨by show k < k + 1; omega, rfl, by show 2 ≤ zrN _; omega, fun i hi => ?_⟩⟩
      · show zrN _ ≤ zrN _
        by_cases e : i = k
        · rw [e]; exact Nat.le_refl _
        · have := h1 i (by omega)
          omega
      · have := h1 i hi
        show zrN _ < zrN _
        omega
    · rename_i h
      refine ⟨fun i hi => ?_, ?_⟩
      · by_cases e : i = k
        · rw [e]; omega
        · exact h1 i (by omega)
      · rcases h2 with h2 | h2
        · exact .inl h2
        · exact .inr ⟨by omega, h2.2⟩
theorem lrun_found {L : List Nat} (hL : L.length = 8) {i n : Nat} (h2 : 2 ≤ n) (hi : i + n ≤ 8) (hz : zr L i n) (hmore : ∀ m j, n < m → j + m ≤ 8 → ¬ zr L j m) (hless : ∀ j, j < i → ¬ zr L j n) : lrun L 8 = (i, n) := by
  obtain ⟨h3, h4⟩ := lrun_spec L 8
  have key : ∀ j, j < 8 → zrN (L.drop j) ≤ n := by
    intro j hj
    rcases Nat.lt_or_ge n (zrN (L.drop j)) with h | h
    · have hb := zrN_le (L.drop j)
      simp only [List.length_drop, hL] at hb
      exact absurd (Nat.le_refl _) (hmore (zrN (L.drop j)) j h (by omega))
    · exact h
  have hz' : zrN (L.drop i) = n := Nat.le_antisymm (key i (by omega)) hz
  have h5 := h3 i (by omega)
  rcases h4 with h4 | ⟨h6, h7, h8, h9⟩
  · rw [h4] at h5
    simp only at h5
    omega
  · have h10 := key _ h6
    have e2 : (lrun L 8).2 = n := by omega
    have e1 : (lrun L 8).1 = i := by
      rcases Nat.lt_trichotomy (lrun L 8).1 i with h | h | h
      · exact absurd (by show n ≤ _; omega) (hless _ h)
      · exact h
      · have := h9 i h
        omega
    exact Prod.ext e1 e2
theorem lrun_not {L : List Nat} (hL : L.length = 8) (hmore : ∀ m j, 1 < m → j + m ≤ 8 → ¬ zr L j m) : (lrun L 8).2 < 2 := by
  obtain ⟨h3, h4⟩ := lrun_spec L 8
  rcases h4 with h4 | ⟨h6, h7, h8, h9⟩
  · rw [h4]; decide
  · have hb := zrN_le (L.drop (lrun L 8).1)
    simp only [List.length_drop, hL] at hb
    exact absurd (Nat.le_of_eq h7.symm) (hmore _ _ h8 (by omega))
end Go.Proofs.YtbnjijffkjcmcaaGreatDoor.AL
namespace Go.Proofs.YtbnjijffkjcmcaaGreatDoor.AL
open Go
/-! ### Searching -/
def cutG (sep : List UInt8) : List UInt8 → Option (List UInt8 × List UInt8)
  | [] => none
  | x :: l => if sep.isPrefixOf (x :: l) = true then some ([], (x :: l).drop sep.length) else (cutG sep l).map fun p => (x :: p.1, p.2)
def ixO : Option (List UInt8 × List UInt8) → Int
  | some p => p.1.length
  | none => -1
theorem index_cutG {sep : List UInt8} (hs : sep ≠ []) : ∀ (s : List UInt8), Lib.index s sep = ixO (cutG sep s)
  | [] => by
    unfold Lib.index cutG
    rw [if_neg (by simpa using hs)]
    rfl
  | x :: l => by
    have ih := index_cutG hs l
    unfold Lib.index cutG
    split
    · rfl
    · rw [ih]
      cases hc : cutG sep l with
      | none => rfl
      | some p =>
        show (if ((p.1.length : Int) == -1) = true then (-1 : Int) else (p.1.length : Int) + 1) = ((p.1.length + 1 : Nat) : Int)
        rw [if_neg (by simp)]
        push_cast
        rfl
theorem cutG_some {sep : List UInt8} : ∀ {s a b : List UInt8}, cutG sep s = some (a, b) → s = a ++ (sep ++ b)
  | [], a, b, h => by simp [cutG] at h
  | x :: l, a, b, h => by
    unfold cutG at h
    split at h
    · rename_i h1
      simp only [Option.some.injEq, Prod.mk.injEq] at h
      obtain ⟨rfl, rfl⟩ := h
      obtain ⟨t, ht⟩ := List.isPrefixOf_iff_prefix.1 h1
      rw [← ht]
      simp
    · simp only [Option.map_eq_some_iff] at h
      obtain ⟨⟨a', b'⟩, h1, h2⟩ := h
      cases h2
      rw [cutG_some h1]
      rfl
theorem cut_cutG {sep : List UInt8} (hs : sep ≠ []) (s : List UInt8) : Lib.cut s sep = match cutG sep s with | some (a, b) => (a, b, true) | none => (s, [], false) := by
  have h := index_cutG hs s
  unfold Lib.cut
  rw [h]
  cases hc : cutG sep s with
  | none => rfl
  | some p =>
    obtain ⟨a, b⟩ := p
    have e := cutG_some hc
    show (if (0 : Int) ≤ (a.length : Int) then (s.take (a.length : Int).toNat, s.drop ((a.length : Int).toNat + sep.length), true) else (s, [], false)) = (a, b, true)
    rw [if_pos (by omega)]
    rw [e]
    simp
theorem cut2_G : ∀ (s : List UInt8), cutG [58, 58] s = cut2 s
  | [] => rfl
  | [x] => by simp [cutG, cut2, List.isPrefixOf]
  | x :: y :: l => by
    have ih := cut2_G (y :: l)
    unfold cutG cut2
    rw [ih]
    by_cases h : x = 58 ∧ y = 58
    · obtain ⟨rfl, rfl⟩ := h
      simp [List.isPrefixOf]
    · rw [if_neg h, if_neg]
      intro h1
      simp only [List.isPrefixOf, Bool.and_true, Bool.and_eq_true, beq_iff_eq] at h1
      exact h ⟨h1.1.symm, h1.2.symm⟩
/-- The pieces of a string between the places of another one. -/
def pcsF (sep : List UInt8) : Nat → List UInt8 → List (List UInt8)
  | 0, s => [s]
  | k + 1, s => match cutG sep s with
    | some (a, b) => a :: pcsF sep k b
    | none => [s]
def pcs (sep s : List UInt8) : List (List UInt8) := pcsF sep s.length s
theorem cutG_len {sep : List UInt8} (hs : sep ≠ []) {s a b : List UInt8} (h : cutG sep s = some (a, b)) : b.length < s.length ∧ a.length + sep.length + b.length = s.length := by
  have := cutG_some h
  have hl := List.length_pos_iff.2 hs
  rw [this]
  simp only [List.length_append]
  omega
theorem pcsF_fuel {sep : List UInt8} (hs : sep ≠ []) : ∀ (f g : Nat) (s : List UInt8), s.length ≤ f → s.length ≤ g → pcsF sep f s = pcsF sep g s
  | 0, g, s, h, _ => by
    have : s = [] := List.length_eq_zero_iff.1 (by omega)
    subst this
    cases g <;> rfl
  | f + 1, 0, s, _, h => by
    have : s = [] := List.length_eq_zero_iff.1 (by omega)
    subst this
    rfl
  | f + 1, g + 1, s, h1, h2 => by
    unfold pcsF
    cases hc : cutG sep s with
    | none => rfl
    | some p =>
      obtain ⟨a, b⟩ := p
      have := (cutG_len hs hc).1
      simp only
      rw [pcsF_fuel hs f g b (by omega) (by omega)]
theorem pcs_none {sep s : List UInt8} (h : cutG sep s = none) : pcs sep s = [s] := by
  unfold pcs
  cases s with
  | nil => rfl
  | cons x l => simp only [List.length_cons, pcsF, h]
theorem pcs_some {sep s a b : List UInt8} (hs : sep ≠ []) (h : cutG sep s = some (a, b)) : pcs sep s = a :: pcs sep b := by
  unfold pcs
  cases s with
  | nil => simp [cutG] at h
  | cons x l =>
    have := (cutG_len hs h).1
    simp only [List.length_cons] at this
    simp only [List.length_cons, pcsF, h]
    rw [pcsF_fuel hs l.length b.length b (by omega) (Nat.le_refl _)]
theorem pcs_ne (sep s : List UInt8) : pcs sep s ≠ [] := by
  unfold pcs
  cases s with
  | nil => simp [pcsF]
  | cons x l => simp only [List.length_cons, pcsF]; split <;> simp
theorem cutG_one (c : UInt8) : ∀ (s : List UInt8), (cutG [c] s = none ∧ c ∉ s) ∨ (∃ a b, cutG [c] s = some (a, b) ∧ c ∉ a ∧ s = a ++ c :: b)
  | [] => .inl ⟨rfl, by simp⟩
  | x :: l => by
    by_cases h : c = x
    · subst h
      exact .inr ⟨[], l, by simp [cutG, List.isPrefixOf], by simp, rfl⟩
    · have hp : List.isPrefixOf [c] (x :: l) = false := by simp [List.isPrefixOf, h]
      rcases cutG_one c l with ⟨h1, h2⟩ | ⟨a, b, h1, h2, h3⟩
      · exact .inl ⟨by unfold cutG; rw [hp, h1]; rfl, by simp [h, h2]⟩
      · exact .inr ⟨x :: a, b, by unfold cutG; rw [hp, h1]; rfl, by simp [h, h2], by rw [h3]; rfl⟩
theorem pcs_one (c : UInt8) : ∀ (n : Nat) (s : List UInt8), s.length ≤ n → pcs [c] s = spl c s
  | 0, s, h => by
    have : s = [] := List.length_eq_zero_iff.1 (by omega)
    subst this
    rfl
  | n + 1, s, h => by
    rcases cutG_one c s with ⟨h1, h2⟩ | ⟨a, b, h1, h2, h3⟩
    · rw [pcs_none h1, spl_none h2]
    · rw [pcs_some (by simp) h1, h3, spl_app b h2, pcs_one c n b (by rw [h3] at h; simp at h; omega)]
theorem pcs_spl (c : UInt8) (s : List UInt8) : pcs [c] s = spl c s := pcs_one c _ s (Nat.le_refl _)
theorem indexByte_in (c : UInt8) : ∀ (s : List UInt8), (0 ≤ Lib.indexByte s c ↔ s.contains c = true) ∧ -1 ≤ Lib.indexByte s c
  | [] => by simp [Lib.indexByte]
  | x :: l => by
    obtain ⟨h1, h2⟩ := indexByte_in c l
    unfold Lib.indexByte
    by_cases hx : x = c
    · subst hx; simp
    · rw [if_neg (by simpa using hx)]
      rw [List.contains_cons]
      have : (c == x) = false := by simpa using fun e => hx e.symm
      rw [this, Bool.false_or, ← h1]
      split
      · rename_i e
        have := beq_iff_eq.1 e
        omega
      · rename_i e
        have : Lib.indexByte l c ≠ -1 := fun e' => e (by simpa using e')
        omega
theorem contains_dec (c : UInt8) (s : List UInt8) : decide (0 ≤ Lib.indexByte s c) = s.contains c := by
  rw [Bool.eq_iff_iff, decide_eq_true_eq]
  exact (indexByte_in c s).1
theorem spl_len (c : UInt8) : ∀ (l : List UInt8), (spl c l).length ≤ l.length + 1
  | [] => by simp [spl]
  | x :: l => by
    have := spl_len c l
    unfold spl
    split
    · simp; omega
    · split
      · rename_i p ps e
        rw [e] at this
        simp at this ⊢
        omega
      · simp
theorem spl_part (c : UInt8) : ∀ (l : List UInt8), ∀ p ∈ spl c l, p.length ≤ l.length
  | [], p, h => by simp [spl] at h; simp [h]
  | x :: l, p, h => by
    have ih := spl_part c l
    unfold spl at h
    split at h
    · rcases List.mem_cons.1 h with rfl | h
      · simp
      · have := ih p h; simp; omega
    · split at h
      · rename_i q qs e
        rw [e] at ih
        rcases List.mem_cons.1 h with rfl | h
        · have := ih q (by simp); simp; omega
        · have := ih p (by simp [h]); simp; omega
      · simp at h; subst h; simp
end Go.Proofs.YtbnjijffkjcmcaaGreatDoor.AL
