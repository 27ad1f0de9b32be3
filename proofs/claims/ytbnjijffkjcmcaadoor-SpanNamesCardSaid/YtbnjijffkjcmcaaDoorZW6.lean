import Derived.Test.YtbnjijffkjcmcaaDoorZW5
import Derived.Lib.CutLaws
import Derived.Test.YtbnjijffkjcmcaaDoorZW3
import Derived.Test.YtbnjijffkjcmcaaDoorZW4
/- What single functions compute: a part of the proof; no conditions. -/
set_option linter.unusedVariables false
set_option linter.unusedSimpArgs false
set_option linter.unusedSectionVars false
set_option maxRecDepth 100000
namespace Go.Proofs.YtbnjijffkjcmcaaDoor.AL
open Go
/-! ### What is read is what is written -/
def vA (f h l : Nat) : Prop := (f = 6 ∧ h < 18446744073709551616 ∧ l < 18446744073709551616) ∨ (f = 4 ∧ h = 0 ∧ l < 4294967296)
theorem join_len (k : Nat) (c : UInt8) : ∀ (ps : List (List UInt8)), (∀ p ∈ ps, p.length ≤ k) → (Lib.join ps [c]).length ≤ (k + 1) * ps.length
  | [], _ => by simp [Lib.join_nil]
  | [p], h => by
    rw [Lib.join_one]
    have := h p (by simp)
    simp only [List.length_cons, List.length_nil]
    omega
  | p :: q :: ps, h => by
    rw [join_cons2]
    have h1 := h p (by simp)
    have h2 := join_len k c (q :: ps) (fun x hx => h x (by simp [hx]))
    simp only [List.length_append, List.length_cons, List.length_nil] at h2 ⊢
    rw [Nat.mul_add (k + 1) (ps.length + 1) 1]
    omega
theorem hj_len (L : List Nat) (h : ∀ x ∈ L, x < 65536) : (hj L).length ≤ 5 * L.length := by
  have := join_len 4 58 (L.map (dgs 16)) (by
    intro p hp
    obtain ⟨y, hy, rfl⟩ := List.mem_map.1 hp
    have := h y hy
    exact dgs_len (by omega) 3 y (by omega) (by show y < 65536; omega))
  simpa [hj] using this
theorem text6_len (L : List Nat) (h : L.length = 8) (hx : ∀ x ∈ L, x < 65536) : (text6L L).length ≤ 42 := by
  have hr := lrun_le h 8 (by omega)
  unfold text6L
  split
  · have := hj_len L hx
    omega
  · have h4 := hr.2.1.resolve_left (by omega)
    have h1 := hj_len (L.take (lrun L 8).1) (fun x hm => hx x (List.mem_of_mem_take hm))
    have h2 := hj_len (L.drop ((lrun L 8).1 + (lrun L 8).2)) (fun x hm => hx x (List.mem_of_mem_drop hm))
    simp only [List.length_append, List.length_cons, List.length_take, List.length_drop] at h1 h2 ⊢
    omega
theorem t4_len (l : Nat) : (t4 l).length ≤ 16 := by
  unfold t4
  have := join_len 3 46 [dgs 10 (b4 l 0), dgs 10 (b4 l 1), dgs 10 (b4 l 2), dgs 10 (b4 l 3)] (by
    intro p hp
    simp only [List.mem_cons, List.not_mem_nil, or_false] at hp
    have key : ∀ i, (dgs 10 (b4 l i)).length ≤ 3 := fun i => dgs_len (by omega) 2 _ (by have := b4_lt l i; omega) (by have := b4_lt l i; omega)
    rcases hp with rfl | rfl | rfl | rfl <;> exact key _)
  exact this
theorem addrT_len (f h l : Nat) : (addrT f h l).length ≤ 42 := by
  unfold addrT
  split
  · exact text6_len _ (G8_len h l) (G8_lt h l)
  · have := t4_len l; omega
/-- What the program reads as an address. -/
def pa (s : List UInt8) : Option (Nat × Nat × Nat) :=
  if 50 < s.length then none
  else if s.contains 58 then (if addrT 6 (parse6L s).1 (parse6L s).2 = s then some (6, (parse6L s).1, (parse6L s).2) else none)
  else if addrT 4 0 (parse4L s) = s then some (4, 0, parse4L s) else none
theorem foldl_bd : ∀ (L : List (List UInt8)) (a : Nat), a < 4294967296 → L.foldl st4 a < 4294967296
  | [], a, h => h
  | x :: L, a, h => foldl_bd L _ (by unfold st4; exact Nat.mod_lt _ (by decide))
theorem parse4_lt (s : List UInt8) : parse4L s < 4294967296 := foldl_bd _ 0 (by decide)
theorem fields_lt (s : List UInt8) : ∀ x ∈ fieldsL s, x < 65536 := by
  unfold fieldsL
  split
  · simp
  · intro x hx
    obtain ⟨p, _, rfl⟩ := List.mem_map.1 hx
    have := pv_le (b := 16) (M := 65535) p
    omega
theorem parse6_lt (s : List UInt8) : (parse6L s).1 < 18446744073709551616 ∧ (parse6L s).2 < 18446744073709551616 := by
  unfold parse6L
  split
  · refine putN_fold _ _ ?_ (by decide) (by decide)
    intro x hx
    simp only [List.mem_append, List.mem_replicate] at hx
    rcases hx with (hx | hx) | hx
    · exact fields_lt _ x hx
    · omega
    · exact fields_lt _ x hx
  · exact putN_fold _ _ (fields_lt s) (by decide) (by decide)
theorem pa_iff {s : List UInt8} {f h l : Nat} : pa s = some (f, h, l) ↔ vA f h l ∧ addrT f h l = s := by
  constructor
  · intro e
    unfold pa at e
    split at e
    · cases e
    · split at e
      · split at e
        · rename_i h1
          cases e
          exact ⟨.inl ⟨rfl, parse6_lt s⟩, h1⟩
        · cases e
      · split at e
        · rename_i h1
          cases e
          exact ⟨.inr ⟨rfl, rfl, parse4_lt s⟩, h1⟩
        · cases e
  · rintro ⟨hv, rfl⟩
    have hlen := addrT_len f h l
    unfold pa
    rw [if_neg (by omega)]
    rcases hv with ⟨rfl, hh, hl⟩ | ⟨rfl, rfl, hl⟩
    · have e : addrT 6 h l = text6L (G8 h l) := rfl
      have hp := parse6_text hh hl
      rw [if_pos (by rw [e]; simpa using text6_colon _ (G8_len h l)), if_pos (by rw [e, hp]; exact e)]
      rw [e, hp]
    · have e : addrT 4 0 l = t4 l := rfl
      have hp := parse4_text hl
      rw [if_neg (by rw [e]; simpa using t4_no l), if_pos (by rw [e, hp]; exact e)]
      rw [e, hp]
theorem pa_text {f h l : Nat} (hv : vA f h l) : pa (addrT f h l) = some (f, h, l) := pa_iff.2 ⟨hv, rfl⟩
theorem addrT_inj {f h l f' h' l' : Nat} (hv : vA f h l) (hv' : vA f' h' l') (e : addrT f h l = addrT f' h' l') : f = f' ∧ h = h' ∧ l = l' := by
  have h1 := pa_text hv
  rw [e, pa_text hv'] at h1
  simp only [Option.some.injEq, Prod.mk.injEq] at h1
  exact ⟨h1.1.symm, h1.2.1.symm, h1.2.2.symm⟩
/-! ### The reference's reading -/
def rgs (b lim : Nat) : List (List UInt8) → Option (List Nat)
  | [] => some []
  | p :: ps => if (rnum b lim p).2 = true then (rgs b lim ps).map ((rnum b lim p).1 :: ·) else none
def rgr (c : UInt8) (b lim : Nat) (s : List UInt8) : Option (List Nat) := if s = [] then some [] else rgs b lim (spl c s)
theorem rgs_iff {b lim : Nat} (hb : 2 ≤ b) (hb' : b ≤ 16) (hlim : lim < b ^ 10) (hl64 : lim < 18446744073709551616) : ∀ {ps : List (List UInt8)} {L : List Nat}, rgs b lim ps = some L ↔ ps = L.map (dgs b) ∧ ∀ x ∈ L, x ≤ lim
  | [], L => by
    simp only [rgs, Option.some.injEq]
    constructor
    · rintro rfl; simp
    · rintro ⟨h, _⟩
      cases L with
      | nil => rfl
      | cons x L => simp at h
  | p :: ps, L => by
    have ih := fun L => rgs_iff hb hb' hlim hl64 (ps := ps) (L := L)
    have hn := fun n => rnum_iff hb hb' hlim hl64 (l := p) (n := n)
    simp only [rgs]
    constructor
    · intro h
      split at h
      · rename_i h1
        simp only [Option.map_eq_some_iff] at h
        obtain ⟨M, h2, rfl⟩ := h
        obtain ⟨e, h3⟩ := (ih M).1 h2
        obtain ⟨e2, h4⟩ := (hn (rnum b lim p).1).1 (by rw [← h1])
        refine ⟨by rw [List.map_cons, ← e2, ← e], ?_⟩
        intro x hx
        rcases List.mem_cons.1 hx with rfl | hx
        · exact h4
        · exact h3 x hx
      · cases h
    · rintro ⟨h1, h2⟩
      cases L with
      | nil => simp at h1
      | cons x L =>
        simp only [List.map_cons, List.cons.injEq] at h1
        have h3 := (hn x).2 ⟨h1.1, h2 x (by simp)⟩
        have h4 := (ih L).2 ⟨h1.2, fun y hy => h2 y (by simp [hy])⟩
        rw [h3, h4]
        rfl
theorem rgr_some {c : UInt8} {b lim : Nat} (hb : 2 ≤ b) (hb' : b ≤ 16) (hlim : lim < b ^ 10) (hl64 : lim < 18446744073709551616) {s : List UInt8} {L : List Nat} (h : rgr c b lim s = some L) :
    s = Lib.join (L.map (dgs b)) [c] ∧ ∀ x ∈ L, x ≤ lim := by
  unfold rgr at h
  split at h
  · rename_i hs
    cases h
    exact ⟨by rw [hs]; rfl, by simp⟩
  · obtain ⟨h1, h2⟩ := (rgs_iff hb hb' hlim hl64).1 h
    exact ⟨by rw [← h1, join_spl], h2⟩
theorem rgr_text {c : UInt8} {b lim : Nat} (hb : 2 ≤ b) (hb' : b ≤ 16) (hlim : lim < b ^ 10) (hl64 : lim < 18446744073709551616) (hc : c.toNat < 48 ∨ (57 < c.toNat ∧ c.toNat < 97) ∨ 102 < c.toNat) (L : List Nat) (h : ∀ x ∈ L, x ≤ lim) :
    rgr c b lim (Lib.join (L.map (dgs b)) [c]) = some L := by
  unfold rgr
  cases L with
  | nil => rw [if_pos (by rfl)]
  | cons x L =>
    have hne : Lib.join (List.map (dgs b) (x :: L)) [c] ≠ [] := by
      rw [List.map_cons, Lib.join_cons]
      intro e
      exact dgs_ne (List.append_eq_nil_iff.1 e).1
    rw [if_neg hne, spl_join _ (by simp) ?_]
    · exact (rgs_iff hb hb' hlim hl64).2 ⟨rfl, h⟩
    · intro p hp
      obtain ⟨y, hy, rfl⟩ := List.mem_map.1 hp
      exact dgs_no hb hb' (by have := h y hy; omega) hc
def r6 (s : List UInt8) : Option (List Nat) := match cut2 s with
  | some (a, b) => match rgr 58 16 65535 a with
    | some x => match rgr 58 16 65535 b with
      | some y => some (x ++ List.replicate (8 - (x.length + y.length)) 0 ++ y)
      | none => none
    | none => none
  | none => rgr 58 16 65535 s
def ra6 (s : List UInt8) : Option (Nat × Nat × Nat) := match r6 s with
  | some L => if L.length = 8 ∧ addrT 6 (L.foldl putN (0, 0)).1 (L.foldl putN (0, 0)).2 = s then some (6, L.foldl putN (0, 0)) else none
  | none => none
def four : Option (List Nat) → Option Nat
  | some [a, b, c, d] => some (((a * 256 + b) * 256 + c) * 256 + d)
  | _ => none
/-- What the reference reads as an address. -/
def ra (s : List UInt8) : Option (Nat × Nat × Nat) :=
  if 100 < s.length then none else match four (rgr 46 10 255 s) with
    | some n => some (4, 0, n)
    | none => ra6 s
theorem four_some {o : Option (List Nat)} {n : Nat} (h : four o = some n) : ∃ a b c d, o = some [a, b, c, d] ∧ n = ((a * 256 + b) * 256 + c) * 256 + d := by
  unfold four at h
  split at h
  · rename_i a b c d
    cases h
    exact ⟨a, b, c, d, rfl, rfl⟩
  · cases h
theorem b4_of {a b c d : Nat} (ha : a ≤ 255) (hb : b ≤ 255) (hc : c ≤ 255) (hd : d ≤ 255) :
    b4 (((a * 256 + b) * 256 + c) * 256 + d) 0 = a ∧ b4 (((a * 256 + b) * 256 + c) * 256 + d) 1 = b ∧ b4 (((a * 256 + b) * 256 + c) * 256 + d) 2 = c ∧ b4 (((a * 256 + b) * 256 + c) * 256 + d) 3 = d := by
  refine ⟨?_, ?_, ?_, ?_⟩
  · show _ / 16777216 % 256 = _; omega
  · show _ / 65536 % 256 = _; omega
  · show _ / 256 % 256 = _; omega
  · show _ / 1 % 256 = _; omega
theorem r6_lt {s : List UInt8} {L : List Nat} (h : r6 s = some L) : ∀ x ∈ L, x < 65536 := by
  unfold r6 at h
  split at h
  · split at h
    · rename_i x hx
      split at h
      · rename_i y hy
        cases h
        intro z hz
        simp only [List.mem_append, List.mem_replicate] at hz
        rcases hz with (hz | hz) | hz
        · have := (rgr_some (by omega) (by omega) (by decide) (by decide) hx).2 z hz; omega
        · omega
        · have := (rgr_some (by omega) (by omega) (by decide) (by decide) hy).2 z hz; omega
      · cases h
    · cases h
  · intro z hz
    have := (rgr_some (by omega) (by omega) (by decide) (by decide) h).2 z hz
    omega
theorem r6_text {h l : Nat} (hh : h < 18446744073709551616) (hl : l < 18446744073709551616) : r6 (text6L (G8 h l)) = some (G8 h l) := by
  have hG := G8_lt h l
  have hlen := G8_len h l
  generalize G8 h l = L at *
  have key : ∀ M : List Nat, (∀ x ∈ M, x < 65536) → rgr 58 16 65535 (hj M) = some M := fun M hM => rgr_text (by omega) (by omega) (by decide) (by decide) (by decide) M (fun x hx => by have := hM x hx; omega)
  unfold text6L
  split
  · unfold r6
    have := cut2_join (L.map (dgs 16)) [] (hj_parts L hG)
    rw [List.append_nil] at this
    have e : cut2 (hj L) = none := by unfold hj; rw [this]; rfl
    rw [e]
    exact key L hG
  · rename_i h2
    obtain ⟨h3, h4, h5⟩ := lrun_le hlen 8 (by omega)
    obtain ⟨h4, h6⟩ := h4.resolve_left (by omega)
    generalize (lrun L 8).1 = at' at *
    generalize (lrun L 8).2 = n at *
    have hT : ∀ x ∈ L.take at', x < 65536 := fun x hx => hG x (List.mem_of_mem_take hx)
    have hD : ∀ x ∈ L.drop (at' + n), x < 65536 := fun x hx => hG x (List.mem_of_mem_drop hx)
    have e : cut2 (hj (L.take at') ++ 58 :: 58 :: hj (L.drop (at' + n))) = some (hj (L.take at'), hj (L.drop (at' + n))) := by
      unfold hj
      rw [cut2_join _ _ (hj_parts _ hT)]
      simp [cut2]
    unfold r6
    rw [e]
    simp only
    rw [key _ hT, key _ hD]
    simp only
    have e2 : 8 - ((L.take at').length + (L.drop (at' + n)).length) = n := by simp; omega
    rw [e2, ← zrN_take _ n h6]
    have e3 : L.take at' ++ (L.drop at').take n ++ L.drop (at' + n) = L := by
      rw [List.append_assoc, ← List.drop_drop, List.take_append_drop, List.take_append_drop]
    rw [e3]
theorem ra_eq (s : List UInt8) : ra s = pa s := by
  apply Option.ext
  rintro ⟨f, h, l⟩
  rw [pa_iff]
  constructor
  · intro e
    unfold ra at e
    split at e
    · cases e
    · split at e
      · rename_i n hn
        cases e
        obtain ⟨a, b, c, d, h1, rfl⟩ := four_some hn
        obtain ⟨h2, h3⟩ := rgr_some (by omega) (by omega) (by decide) (by decide) h1
        have ha := h3 a (by simp)
        have hb := h3 b (by simp)
        have hc := h3 c (by simp)
        have hd := h3 d (by simp)
        obtain ⟨k0, k1, k2, k3⟩ := b4_of ha hb hc hd
        refine ⟨.inr ⟨rfl, rfl, by omega⟩, ?_⟩
        show t4 _ = s
        unfold t4
        rw [k0, k1, k2, k3, h2]
        rfl
      · unfold ra6 at e
        split at e
        · rename_i L hL
          split at e
          · rename_i h1
            simp only [Option.some.injEq] at e
            have hb := putN_fold L (0, 0) (r6_lt hL) (by decide) (by decide)
            have e1 : f = 6 := by have := congrArg Prod.fst e; exact this.symm
            have e2 : (L.foldl putN (0, 0)) = (h, l) := by have := congrArg Prod.snd e; exact this
            rw [e2] at hb h1
            subst e1
            exact ⟨.inl ⟨rfl, hb⟩, h1.2⟩
          · cases e
        · cases e
  · rintro ⟨hv, rfl⟩
    have hlen := addrT_len f h l
    unfold ra
    rw [if_neg (by omega)]
    rcases hv with ⟨rfl, hh, hl⟩ | ⟨rfl, rfl, hl⟩
    · have e : addrT 6 h l = text6L (G8 h l) := rfl
      rw [e]
      have hf : four (rgr 46 10 255 (text6L (G8 h l))) = none := by
        cases hx : four (rgr 46 10 255 (text6L (G8 h l))) with
        | none => rfl
        | some n =>
          obtain ⟨a, b, c, d, h1, _⟩ := four_some hx
          obtain ⟨h2, h3⟩ := rgr_some (by omega) (by omega) (by decide) (by decide) h1
          have hm := text6_colon _ (G8_len h l)
          rw [h2] at hm
          rcases mem_join _ hm with hm | ⟨p, hp, hm⟩
          · simp at hm
          · obtain ⟨y, hy, rfl⟩ := List.mem_map.1 hp
            exact absurd hm (dgs_no (by omega) (by omega) (by have := h3 y hy; omega) (by decide))
      rw [hf]
      simp only
      unfold ra6
      rw [r6_text hh hl]
      simp only
      rw [putN_G8 hh hl, if_pos ⟨G8_len h l, e⟩]
    · have e : addrT 4 0 l = t4 l := rfl
      rw [e]
      have h1 : rgr 46 10 255 (t4 l) = some [b4 l 0, b4 l 1, b4 l 2, b4 l 3] := by
        refine rgr_text (b := 10) (by omega) (by omega) (by decide) (by decide) (by decide) [b4 l 0, b4 l 1, b4 l 2, b4 l 3] ?_
        intro x hx
        simp only [List.mem_cons, List.not_mem_nil, or_false] at hx
        rcases hx with rfl | rfl | rfl | rfl <;> (have := b4_lt l 0; have := b4_lt l 1; have := b4_lt l 2; have := b4_lt l 3; omega)
      rw [h1]
      simp only [four]
      congr 2
      have e0 : b4 l 0 = l / 16777216 % 256 := rfl
      have e1 : b4 l 1 = l / 65536 % 256 := rfl
      have e2 : b4 l 2 = l / 256 % 256 := rfl
      have e3 : b4 l 3 = l / 1 % 256 := rfl
      rw [e0, e1, e2, e3]
      congr 1
      omega
/-! ### The longest run of zeros, as the reference looks for it -/
def zr (L : List Nat) (i n : Nat) : Prop := n ≤ zrN (L.drop i)
theorem lrun_spec (L : List Nat) : ∀ k, (∀ i, i < k → zrN (L.drop i) ≤ (lrun L k).2) ∧ ((lrun L k) = (0, 1) ∨ ((lrun L k).1 < k ∧ zrN (L.drop (lrun L k).1) = (lrun L k).2 ∧ 2 ≤ (lrun L k).2 ∧ ∀ i, i < (lrun L k).1 → zrN (L.drop i) < (lrun L k).2))
  | 0 => ⟨by omega, .inl rfl⟩
  | k + 1 => by
    obtain ⟨h1, h2⟩ := lrun_spec L k
    have h0 : 1 ≤ (lrun L k).2 := by
      rcases h2 with h2 | h2
      · rw [h2]; exact Nat.le_refl _
      · omega
    unfold lrun
    split
    · rename_i h
      refine ⟨fun i hi => ?_, .inr ⟨by show k < k + 1; omega, rfl, by show 2 ≤ zrN _; omega, fun i hi => ?_⟩⟩
      · show zrN _ ≤ zrN _
        by_cases e : i = k
        · rw [e]; exact Nat.le_refl _
        · have := h1 i (by omega)
          omega
      · have := h1 i hi
        show zrN _ < zrN _
        omega
    · rename_i h
      refine ⟨fun i hi => ?_, ?_⟩
      · by_cases e : i = k
        · rw [e]; omega
        · exact h1 i (by omega)
      · rcases h2 with h2 | h2
        · exact .inl h2
        · exact .inr ⟨by omega, h2.2⟩
theorem lrun_found {L : List Nat} (hL : L.length = 8) {i n : Nat} (h2 : 2 ≤ n) (hi : i + n ≤ 8) (hz : zr L i n) (hmore : ∀ m j, n < m → j + m ≤ 8 → ¬ zr L j m) (hless : ∀ j, j < i → ¬ zr L j n) : lrun L 8 = (i, n) := by
  obtain ⟨h3, h4⟩ := lrun_spec L 8
  have key : ∀ j, j < 8 → zrN (L.drop j) ≤ n := by
    intro j hj
    rcases Nat.lt_or_ge n (zrN (L.drop j)) with h | h
    · have hb := zrN_le (L.drop j)
      simp only [List.length_drop, hL] at hb
      exact absurd (Nat.le_refl _) (hmore (zrN (L.drop j)) j h (by omega))
    · exact h
  have hz' : zrN (L.drop i) = n := Nat.le_antisymm (key i (by omega)) hz
  have h5 := h3 i (by omega)
  rcases h4 with h4 | ⟨h6, h7, h8, h9⟩
  · rw [h4] at h5
    simp only at h5
    omega
  · have h10 := key _ h6
    have e2 : (lrun L 8).2 = n := by omega
    have e1 : (lrun L 8).1 = i := by
      rcases Nat.lt_trichotomy (lrun L 8).1 i with h | h | h
      · exact absurd (by show n ≤ _; omega) (hless _ h)
      · exact h
      · have := h9 i h
        omega
    exact Prod.ext e1 e2
theorem lrun_not {L : List Nat} (hL : L.length = 8) (hmore : ∀ m j, 1 < m → j + m ≤ 8 → ¬ zr L j m) : (lrun L 8).2 < 2 := by
  obtain ⟨h3, h4⟩ := lrun_spec L 8
  rcases h4 with h4 | ⟨h6, h7, h8, h9⟩
  · rw [h4]; decide
  · have hb := zrN_le (L.drop (lrun L 8).1)
    simp only [List.length_drop, hL] at hb
    exact absurd (Nat.le_of_eq h7.symm) (hmore _ _ h8 (by omega))
end Go.Proofs.YtbnjijffkjcmcaaDoor.AL
namespace Go.Proofs.YtbnjijffkjcmcaaDoor.AL
open Go
/-! ### Searching -/
def cutG (sep : List UInt8) : List UInt8 → Option (List UInt8 × List UInt8)
  | [] => none
  | x :: l => if sep.isPrefixOf (x :: l) = true then some ([], (x :: l).drop sep.length) else (cutG sep l).map fun p => (x :: p.1, p.2)
def ixO : Option (List UInt8 × List UInt8) → Int
  | some p => p.1.length
  | none => -1
theorem index_cutG {sep : List UInt8} (hs : sep ≠ []) : ∀ (s : List UInt8), Lib.index s sep = ixO (cutG sep s)
  | [] => by
    unfold Lib.index cutG
    rw [if_neg (by simpa using hs)]
    rfl
  | x :: l => by
    have ih := index_cutG hs l
    unfold Lib.index cutG
    split
    · rfl
    · rw [ih]
      cases hc : cutG sep l with
      | none => rfl
      | some p =>
        show (if ((p.1.length : Int) == -1) = true then (-1 : Int) else (p.1.length : Int) + 1) = ((p.1.length + 1 : Nat) : Int)
        rw [if_neg (by simp)]
        push_cast
        rfl
theorem cutG_some {sep : List UInt8} : ∀ {s a b : List UInt8}, cutG sep s = some (a, b) → s = a ++ (sep ++ b)
  | [], a, b, h => by simp [cutG] at h
  | x :: l, a, b, h => by
    unfold cutG at h
    split at h
    · rename_i h1
      simp only [Option.some.injEq, Prod.mk.injEq] at h
      obtain ⟨rfl, rfl⟩ := h
      obtain ⟨t, ht⟩ := List.isPrefixOf_iff_prefix.1 h1
      rw [← ht]
      simp
    · simp only [Option.map_eq_some_iff] at h
      obtain ⟨⟨a', b'⟩, h1, h2⟩ := h
      cases h2
      rw [cutG_some h1]
      rfl
theorem cut_cutG {sep : List UInt8} (hs : sep ≠ []) (s : List UInt8) : Lib.cut s sep = match cutG sep s with | some (a, b) => (a, b, true) | none => (s, [], false) := by
  have h := index_cutG hs s
  unfold Lib.cut
  rw [h]
  cases hc : cutG sep s with
  | none => rfl
  | some p =>
    obtain ⟨a, b⟩ := p
    have e := cutG_some hc
    show (if (0 : Int) ≤ (a.length : Int) then (s.take (a.length : Int).toNat, s.drop ((a.length : Int).toNat + sep.length), true) else (s, [], false)) = (a, b, true)
    rw [if_pos (by omega)]
    rw [e]
    simp
theorem cut2_G : ∀ (s : List UInt8), cutG [58, 58] s = cut2 s
  | [] => rfl
  | [x] => by simp [cutG, cut2, List.isPrefixOf]
  | x :: y :: l => by
    have ih := cut2_G (y :: l)
    unfold cutG cut2
    rw [ih]
    by_cases h : x = 58 ∧ y = 58
    · obtain ⟨rfl, rfl⟩ := h
      simp [List.isPrefixOf]
    · rw [if_neg h, if_neg]
      intro h1
      simp only [List.isPrefixOf, Bool.and_true, Bool.and_eq_true, beq_iff_eq] at h1
      exact h ⟨h1.1.symm, h1.2.symm⟩
/-- The pieces of a string between the places of another one. -/
def pcsF (sep : List UInt8) : Nat → List UInt8 → List (List UInt8)
  | 0, s => [s]
  | k + 1, s => match cutG sep s with
    | some (a, b) => a :: pcsF sep k b
    | none => [s]
def pcs (sep s : List UInt8) : List (List UInt8) := pcsF sep s.length s
theorem cutG_len {sep : List UInt8} (hs : sep ≠ []) {s a b : List UInt8} (h : cutG sep s = some (a, b)) : b.length < s.length ∧ a.length + sep.length + b.length = s.length := by
  have := cutG_some h
  have hl := List.length_pos_iff.2 hs
  rw [this]
  simp only [List.length_append]
  omega
theorem pcsF_fuel {sep : List UInt8} (hs : sep ≠ []) : ∀ (f g : Nat) (s : List UInt8), s.length ≤ f → s.length ≤ g → pcsF sep f s = pcsF sep g s
  | 0, g, s, h, _ => by
    have : s = [] := List.length_eq_zero_iff.1 (by omega)
    subst this
    cases g <;> rfl
  | f + 1, 0, s, _, h => by
    have : s = [] := List.length_eq_zero_iff.1 (by omega)
    subst this
    rfl
  | f + 1, g + 1, s, h1, h2 => by
    unfold pcsF
    cases hc : cutG sep s with
    | none => rfl
    | some p =>
      obtain ⟨a, b⟩ := p
      have := (cutG_len hs hc).1
      simp only
      rw [pcsF_fuel hs f g b (by omega) (by omega)]
theorem pcs_none {sep s : List UInt8} (h : cutG sep s = none) : pcs sep s = [s] := by
  unfold pcs
  cases s with
  | nil => rfl
  | cons x l => simp only [List.length_cons, pcsF, h]
theorem pcs_some {sep s a b : List UInt8} (hs : sep ≠ []) (h : cutG sep s = some (a, b)) : pcs sep s = a :: pcs sep b := by
  unfold pcs
  cases s with
  | nil => simp [cutG] at h
  | cons x l =>
    have := (cutG_len hs h).1
    simp only [List.length_cons] at this
    simp only [List.length_cons, pcsF, h]
    rw [pcsF_fuel hs l.length b.length b (by omega) (Nat.le_refl _)]
theorem pcs_ne (sep s : List UInt8) : pcs sep s ≠ [] := by
  unfold pcs
  cases s with
  | nil => simp [pcsF]
  | cons x l => simp only [List.length_cons, pcsF]; split <;> simp
theorem cutG_one (c : UInt8) : ∀ (s : List UInt8), (cutG [c] s = none ∧ c ∉ s) ∨ (∃ a b, cutG [c] s = some (a, b) ∧ c ∉ a ∧ s = a ++ c :: b)
  | [] => .inl ⟨rfl, by simp⟩
  | x :: l => by
    by_cases h : c = x
    · subst h
      exact .inr ⟨[], l, by simp [cutG, List.isPrefixOf], by simp, rfl⟩
    · have hp : List.isPrefixOf [c] (x :: l) = false := by simp [List.isPrefixOf, h]
      rcases cutG_one c l with ⟨h1, h2⟩ | ⟨a, b, h1, h2, h3⟩
      · exact .inl ⟨by unfold cutG; rw [hp, h1]; rfl, by simp [h, h2]⟩
      · exact .inr ⟨x :: a, b, by unfold cutG; rw [hp, h1]; rfl, by simp [h, h2], by rw [h3]; rfl⟩
theorem pcs_one (c : UInt8) : ∀ (n : Nat) (s : List UInt8), s.length ≤ n → pcs [c] s = spl c s
  | 0, s, h => by
    have : s = [] := List.length_eq_zero_iff.1 (by omega)
    subst this
    rfl
  | n + 1, s, h => by
    rcases cutG_one c s with ⟨h1, h2⟩ | ⟨a, b, h1, h2, h3⟩
    · rw [pcs_none h1, spl_none h2]
    · rw [pcs_some (by simp) h1, h3, spl_app b h2, pcs_one c n b (by rw [h3] at h; simp at h; omega)]
theorem pcs_spl (c : UInt8) (s : List UInt8) : pcs [c] s = spl c s := pcs_one c _ s (Nat.le_refl _)
theorem indexByte_in (c : UInt8) : ∀ (s : List UInt8), (0 ≤ Lib.indexByte s c ↔ s.contains c = true) ∧ -1 ≤ Lib.indexByte s c
  | [] => by simp [Lib.indexByte]
  | x :: l => by
    obtain ⟨h1, h2⟩ := indexByte_in c l
    unfold Lib.indexByte
    by_cases hx : x = c
    · subst hx; simp
    · rw [if_neg (by simpa using hx)]
      rw [List.contains_cons]
      have : (c == x) = false := by simpa using fun e => hx e.symm
      rw [this, Bool.false_or, ← h1]
      split
      · rename_i e
        have := beq_iff_eq.1 e
        omega
      · rename_i e
        have : Lib.indexByte l c ≠ -1 := fun e' => e (by simpa using e')
        omega
theorem contains_dec (c : UInt8) (s : List UInt8) : decide (0 ≤ Lib.indexByte s c) = s.contains c := by
  rw [Bool.eq_iff_iff, decide_eq_true_eq]
  exact (indexByte_in c s).1
theorem spl_len (c : UInt8) : ∀ (l : List UInt8), (spl c l).length ≤ l.length + 1
  | [] => by simp [spl]
  | x :: l => by
    have := spl_len c l
    unfold spl
    split
    · simp; omega
    · split
      · rename_i p ps e
        rw [e] at this
        simp at this ⊢
        omega
      · simp
theorem spl_part (c : UInt8) : ∀ (l : List UInt8), ∀ p ∈ spl c l, p.length ≤ l.length
  | [], p, h => by simp [spl] at h; simp [h]
  | x :: l, p, h => by
    have ih := spl_part c l
    unfold spl at h
    split at h
    · rcases List.mem_cons.1 h with rfl | h
      · simp
      · have := ih p h; simp; omega
    · split at h
      · rename_i q qs e
        rw [e] at ih
        rcases List.mem_cons.1 h with rfl | h
        · have := ih q (by simp); simp; omega
        · have := ih p (by simp [h]); simp; omega
      · simp at h; subst h; simp
end Go.Proofs.YtbnjijffkjcmcaaDoor.AL
namespace Go.Proofs.YtbnjijffkjcmcaaDoor.AL
open Go
/-! ### Strings of prefixes and of numbers of systems -/
theorem hj_no {c : UInt8} (hc : c.toNat < 48 ∨ (57 < c.toNat ∧ c.toNat < 97) ∨ 102 < c.toNat) (h58 : c ≠ 58) (L : List Nat) (h : ∀ x ∈ L, x < 65536) : c ∉ hj L := by
  intro hm
  unfold hj at hm
  rcases mem_join _ hm with hm | ⟨p, hp, hm⟩
  · simp at hm; exact h58 hm
  · obtain ⟨y, hy, rfl⟩ := List.mem_map.1 hp
    exact dgs_no (by omega) (by omega) (by have := h y hy; omega) hc hm
theorem addrT_no {c : UInt8} (hc : c.toNat < 46 ∨ c.toNat = 47 ∨ (58 < c.toNat ∧ c.toNat < 97) ∨ 102 < c.toNat) (f h l : Nat) : c ∉ addrT f h l := by
  have h58 : c ≠ 58 := by rintro rfl; revert hc; decide
  have h46 : c ≠ 46 := by rintro rfl; revert hc; decide
  have hc' : c.toNat < 48 ∨ (57 < c.toNat ∧ c.toNat < 97) ∨ 102 < c.toNat := by omega
  intro hm
  unfold addrT at hm
  split at hm
  · unfold text6L at hm
    have hG := G8_lt h l
    split at hm
    · exact hj_no hc' h58 _ hG hm
    · rcases List.mem_append.1 hm with hm | hm
      · exact hj_no hc' h58 _ (fun x hx => hG x (List.mem_of_mem_take hx)) hm
      · simp only [List.mem_cons] at hm
        rcases hm with hm | hm | hm
        · exact h58 hm
        · exact h58 hm
        · exact hj_no hc' h58 _ (fun x hx => hG x (List.mem_of_mem_drop hx)) hm
  · unfold t4 at hm
    rcases mem_join _ hm with hm | ⟨p, hp, hm⟩
    · simp at hm; exact h46 hm
    · simp only [List.mem_cons, List.not_mem_nil, or_false] at hp
      have key : ∀ i, c ∉ dgs 10 (b4 l i) := fun i => dgs_no (by omega) (by omega) (by have := b4_lt l i; omega) hc'
      rcases hp with rfl | rfl | rfl | rfl <;> exact key _ hm
theorem cutG_at {c : UInt8} {a : List UInt8} (b : List UInt8) (h : c ∉ a) : cutG [c] (a ++ c :: b) = some (a, b) := by
  rcases cutG_one c (a ++ c :: b) with ⟨_, h2⟩ | ⟨a', b', h1, h2, h3⟩
  · exact absurd (by simp) h2
  · rw [h1]
    have e1 := spl_app b h
    rw [h3, spl_app b' h2] at e1
    simp only [List.cons.injEq] at e1
    obtain ⟨rfl, _⟩ := e1
    have := List.append_cancel_left h3
    simp only [List.cons.injEq, true_and] at this
    rw [this]
def ppT (f h l n : Nat) : List UInt8 := addrT f h l ++ 47 :: dgs 10 n
def ppX (s : List UInt8) (n : Nat) : Option (Nat × Nat × Nat) → Option (Nat × Nat × Nat × Nat)
  | some (f, h, l) => if chkP f h l n = 0 ∧ ppT f h l n = s then some (f, h, l, n) else none
  | none => none
/-- What the program reads as a prefix. -/
def pp (s : List UInt8) : Option (Nat × Nat × Nat × Nat) := match pu 10 255 (Lib.cut s [47]).2.1 with
  | .ok n => ppX s n (pa (Lib.cut s [47]).1)
  | _ => none
theorem chk_le {f h l n : Nat} (hc : chkP f h l n = 0) : n ≤ 128 := by
  obtain ⟨j, e, hj, _⟩ := chk_zero hc
  have := widN_le f
  omega
theorem pp_iff {s : List UInt8} {f h l n : Nat} : pp s = some (f, h, l, n) ↔ vA f h l ∧ chkP f h l n = 0 ∧ ppT f h l n = s := by
  constructor
  · intro e
    unfold pp at e
    split at e
    · rename_i m hm
      cases hp : pa (Lib.cut s [47]).1 with
      | none => rw [hp] at e; cases e
      | some q =>
        obtain ⟨f', h', l'⟩ := q
        rw [hp] at e
        simp only [ppX] at e
        split at e
        · rename_i hh
          cases e
          exact ⟨(pa_iff.1 hp).1, hh⟩
        · cases e
    · cases e
  · rintro ⟨hv, hc, rfl⟩
    have hn := chk_le hc
    have hcut : Lib.cut (ppT f h l n) [47] = (addrT f h l, dgs 10 n, true) := by
      rw [cut_cutG (by simp)]
      unfold ppT
      rw [cutG_at _ (addrT_no (by decide) f h l)]
    unfold pp
    rw [hcut]
    simp only
    rw [pu_dgs (by omega) (by omega) (by omega) (by omega), pa_text hv]
    simp only [ppX]
    rw [if_pos ⟨hc, trivial⟩]
/-- What the reference reads as a prefix. -/
def rpX (x y : List UInt8) : Option (Nat × Nat × Nat) → Option (Nat × Nat × Nat × Nat)
  | some (f, h, l) => if (rnum 10 128 y).2 = true ∧ chkP f h l (rnum 10 128 y).1 = 0 then some (f, h, l, (rnum 10 128 y).1) else none
  | none => none
def rp (s : List UInt8) : Option (Nat × Nat × Nat × Nat) := match spl 47 s with
  | [x, y] => rpX x y (ra x)
  | _ => none
theorem rp_eq (s : List UInt8) : rp s = pp s := by
  apply Option.ext
  rintro ⟨f, h, l, n⟩
  rw [pp_iff]
  constructor
  · intro e
    unfold rp at e
    split at e
    · rename_i x y hs
      have hj := join_spl 47 s
      rw [hs, join_cons2, Lib.join_one] at hj
      cases hp : ra x with
      | none => rw [hp] at e; cases e
      | some q =>
        obtain ⟨f', h', l'⟩ := q
        rw [hp] at e
        simp only [rpX] at e
        split at e
        · rename_i hh
          cases e
          rw [ra_eq] at hp
          obtain ⟨h1, h2⟩ := pa_iff.1 hp
          obtain ⟨h3, _⟩ := (rnum_iff (b := 10) (lim := 128) (by omega) (by omega) (by decide) (by decide) (l := y) (n := (rnum 10 128 y).1)).1 (by rw [← hh.1])
          refine ⟨h1, hh.2, ?_⟩
          unfold ppT
          rw [← h3, h2, ← hj]
          simp
        · cases e
    · cases e
  · rintro ⟨hv, hc, rfl⟩
    have hn := chk_le hc
    have hs : spl 47 (ppT f h l n) = [addrT f h l, dgs 10 n] := by
      unfold ppT
      rw [spl_app _ (addrT_no (by decide) f h l), spl_none (dgs_no (by omega) (by omega) (by omega) (by decide))]
    have hr := (rnum_iff (b := 10) (lim := 128) (by omega) (by omega) (by decide) (by decide) (l := dgs 10 n) (n := n)).2 ⟨rfl, hn⟩
    unfold rp
    rw [hs]
    simp only
    rw [ra_eq, pa_text hv]
    simp only [rpX, hr]
    rw [if_pos ⟨trivial, hc⟩]
def asT (n : Nat) : List UInt8 := 65 :: 83 :: dgs 10 n
/-- What the program reads as a number of a system. -/
def asp (s : List UInt8) : Option Nat := if Lib.hasPrefix s [65, 83] = true then (match pu 10 4294967295 (Lib.trimPrefix s [65, 83]) with
  | .ok n => if asT n = s then some n else none
  | _ => none) else none
theorem hasP_as (r : List UInt8) : Lib.hasPrefix (65 :: 83 :: r) [65, 83] = true ∧ Lib.trimPrefix (65 :: 83 :: r) [65, 83] = r := by
  have h : Lib.hasPrefix (65 :: 83 :: r) [65, 83] = true := by simp [Lib.hasPrefix, List.isPrefixOf]
  exact ⟨h, by unfold Lib.trimPrefix; rw [if_pos h]; rfl⟩
theorem asp_iff {s : List UInt8} {n : Nat} : asp s = some n ↔ n < 4294967296 ∧ asT n = s := by
  constructor
  · intro e
    unfold asp at e
    split at e
    · split at e
      · rename_i m hm
        split at e
        · rename_i h
          cases e
          refine ⟨?_, h⟩
          unfold pu at hm
          split at hm
          · cases hm
          · have := puF_le _ _ _ (Nat.zero_le _) hm
            omega
        · cases e
      · cases e
    · cases e
  · rintro ⟨h, rfl⟩
    obtain ⟨h1, h2⟩ := hasP_as (dgs 10 n)
    unfold asp
    have e : asT n = 65 :: 83 :: dgs 10 n := rfl
    rw [e, if_pos h1, h2, pu_dgs (by omega) (by omega) (by omega) (by omega)]
    simp only
    rw [if_pos e]
def ras (s : List UInt8) : Option Nat := if s.length < 2 ∨ s.take 2 ≠ [65, 83] then none else if (rnum 10 4294967295 (s.drop 2)).2 = true then some (rnum 10 4294967295 (s.drop 2)).1 else none
theorem ras_eq (s : List UInt8) : ras s = asp s := by
  apply Option.ext
  intro n
  rw [asp_iff]
  have hi := fun (l : List UInt8) (n : Nat) => rnum_iff (b := 10) (lim := 4294967295) (by omega) (by omega) (by decide) (by decide) (l := l) (n := n)
  constructor
  · intro e
    unfold ras at e
    split at e
    · cases e
    · rename_i h1
      split at e
      · rename_i h2
        cases e
        obtain ⟨h3, h4⟩ := (hi (s.drop 2) _).1 (by rw [← h2])
        refine ⟨by omega, ?_⟩
        unfold asT
        rw [← h3]
        have ht : s.take 2 = [65, 83] := by
          rcases Classical.em (s.take 2 = [65, 83]) with h | h
          · exact h
          · exact absurd (.inr h) h1
        have := List.take_append_drop 2 s
        rw [ht] at this
        exact this
      · cases e
  · rintro ⟨h, rfl⟩
    have hr := (hi (dgs 10 n) n).2 ⟨rfl, by omega⟩
    unfold ras asT
    rw [if_neg (by simp)]
    simp only [List.drop_succ_cons, List.drop_zero, hr, if_true]
theorem asT_inj {n m : Nat} (hn : n < 4294967296) (hm : m < 4294967296) (h : asT n = asT m) : n = m := by
  unfold asT at h
  simp only [List.cons.injEq, true_and] at h
  exact dgs_inj (by omega) (by omega) (by omega) (by omega) h
end Go.Proofs.YtbnjijffkjcmcaaDoor.AL
namespace Go.Proofs.YtbnjijffkjcmcaaDoor.AL
open Go
/-! Strings of spans. -/
theorem last_num {h l : Int} (hin : inA h l) (k : Nat) : numA (lastA h l k) = numA (h, l) / 2 ^ k * 2 ^ k + (2 ^ k - 1) := lastA_num hin.2.2.1 hin.2.2.2 k
/-- The prefix that begins a span is a prefix. -/
theorem fstN_ok {f h l h' l' : Int} (hw : okF f h l h' l' (widN f) = true) : fstN f h l h' l' ≤ widN f ∧ okF f h l h' l' (fstN f h l h' l') = true := by
  unfold fstN
  cases hf : (List.range (widN f)).find? (fun n => okF f h l h' l' n) with
  | none => exact ⟨Nat.le_refl _, hw⟩
  | some k =>
    rw [List.find?_range_eq_some] at hf
    exact ⟨by have := hf.2.1; simp at this; show k ≤ _; omega, hf.1⟩
theorem fst_chk {f h l h' l' : Int} (hin : inA h l) (hc : chkS f h l h' l' = 0) : chkP f h l (fstN f h l h' l') = 0 ∧ fstN f h l h' l' ≤ widN f := by
  obtain ⟨h1, h2, h3⟩ := chkS_zero hc
  obtain ⟨k1, k2⟩ := fstN_ok (okF_w (f := f) h3)
  refine ⟨?_, k1⟩
  unfold okF at k2
  rw [Bool.and_eq_true, decide_eq_true_eq] at k2
  have := chk_cut hin h1 k1
  rw [k2.1] at this
  exact this
theorem pow_lt {a b : Nat} (h : a < b) : (2 : Int) ^ a < 2 ^ b := by
  rw [← ipow, ← ipow]
  have := Nat.pow_lt_pow_right (a := 2) (by omega) h
  omega
theorem cmp_gt {a b c d : Int} (h1 : inA a b) (h2 : inA c d) (h : numA (c, d) < numA (a, b)) : ¬ cmpA a b c d ≤ 0 := by
  rw [cmpA_num h1 h2, if_neg (by omega), if_pos h]; omega
theorem cmp_le {a b c d : Int} (h1 : inA a b) (h2 : inA c d) (h : numA (a, b) ≤ numA (c, d)) : cmpA a b c d ≤ 0 := by
  rw [cmpA_num h1 h2]
  split
  · omega
  · rw [if_neg (by omega)]; omega
theorem cAddr_last {f h l : Int} {k : Nat} (hin : inA h l) (hc : cAddr f h l = true) (hk : k ≤ widN f) : cAddr f (lastA h l k).1 (lastA h l k).2 = true := by
  have hw := widN_le f
  have hL : inA (lastA h l k).1 (lastA h l k).2 := lastA_rng hin (by omega)
  have hN := last_num hin k
  have hb := numA_lt hin hc
  have hp := ipow_pos k
  have h1 : numA (h, l) / 2 ^ k < 2 ^ (widN f - k) := by
    rw [Int.ediv_lt_iff_lt_mul hp, ← ipow_add, Nat.sub_add_cancel hk]
    exact hb.2
  have h2 : (numA (h, l) / 2 ^ k + 1) * 2 ^ k ≤ 2 ^ (widN f - k) * 2 ^ k := Int.mul_le_mul_of_nonneg_right (by omega) (by omega)
  rw [← ipow_add, Nat.sub_add_cancel hk, Int.add_mul, Int.one_mul] at h2
  rcases cAddr_46 hc with rfl | rfl
  · have h3 : (2 : Int) ^ widN 4 = 4294967296 := rfl
    rw [h3] at h2
    have h4 : numA (lastA h l k) < 4294967296 := by omega
    obtain ⟨a0, a1, b0, b1⟩ := hL
    unfold numA at h4
    unfold cAddr
    simp
    omega
  · unfold cAddr; simp
/-- The first prefix of the span of a prefix is this prefix. -/
theorem fst_last {f h l : Int} {n : Nat} (hin : inA h l) (hc : chkP f h l n = 0) : fstN f h l (lastA h l (widN f - n)).1 (lastA h l (widN f - n)).2 = n ∧ chkS f h l (lastA h l (widN f - n)).1 (lastA h l (widN f - n)).2 = 0 ∧
    inA (lastA h l (widN f - n)).1 (lastA h l (widN f - n)).2 := by
  obtain ⟨j, e, hj, hca, hcut⟩ := chk_zero hc
  obtain rfl : n = j := by omega
  have hw := widN_le f
  have hL : inA (lastA h l (widN f - n)).1 (lastA h l (widN f - n)).2 := lastA_rng hin (by omega)
  have hN := last_num hin (widN f - n)
  have hcN := cutA_num hin.2.2.1 hin.2.2.2 (h := h) (widN f - n)
  rw [hcut] at hcN
  rw [← hcN] at hN
  have hp := ipow_pos (widN f - n)
  have heta : ((lastA h l (widN f - n)).1, (lastA h l (widN f - n)).2) = lastA h l (widN f - n) := rfl
  have hle : cmpA h l (lastA h l (widN f - n)).1 (lastA h l (widN f - n)).2 ≤ 0 := cmp_le hin hL (by rw [heta, hN]; omega)
  refine ⟨?_, ?_, hL⟩
  · refine fstN_eq hj (fun i hi => ?_) ?_
    · unfold okF
      by_cases hci : cutA h l (widN f - i) = (h, l)
      · have hLi : inA (lastA h l (widN f - i)).1 (lastA h l (widN f - i)).2 := lastA_rng hin (by omega)
        have hNi := last_num hin (widN f - i)
        have hcNi := cutA_num hin.2.2.1 hin.2.2.2 (h := h) (widN f - i)
        rw [hci] at hcNi
        rw [← hcNi] at hNi
        have hpp := pow_lt (show widN f - n < widN f - i by omega)
        have := cmp_gt hLi hL (by
          rw [heta, show ((lastA h l (widN f - i)).1, (lastA h l (widN f - i)).2) = lastA h l (widN f - i) from rfl, hN, hNi]; omega)
        simp [this]
      · simp [hci]
    · unfold okF
      rw [Bool.and_eq_true, decide_eq_true_eq, decide_eq_true_eq]
      exact ⟨hcut, cmp_le hL hL (Int.le_refl _)⟩
  · unfold chkS
    have hw0 : widN f ≠ 0 := by rcases cAddr_46 hca with rfl | rfl <;> decide
    rw [if_neg hw0, if_pos ⟨hca, cAddr_last hin hca (by omega), hle⟩]
/-- The string of a span. -/
def spT (f h l h' l' : Nat) : List UInt8 := if lastA h l (widN f - fstN f h l h' l') = ((h' : Int), (l' : Int)) then ppT f h l (fstN f h l h' l') else addrT f h l ++ 45 :: addrT f h' l'
def spX (s : List UInt8) : Option (Nat × Nat × Nat) → Option (Nat × Nat × Nat) → Option (Nat × Nat × Nat × Nat × Nat)
  | some (f, h, l), some (g, h', l') => if f = g ∧ chkS f h l h' l' = 0 ∧ spT f h l h' l' = s then some (f, h, l, h', l') else none
  | _, _ => none
/-- What the program reads as a span. -/
def sp (s : List UInt8) : Option (Nat × Nat × Nat × Nat × Nat) := match pp s with
  | some (f, h, l, n) => some (f, h, l, (lastA h l (widN f - n)).1.toNat, (lastA h l (widN f - n)).2.toNat)
  | none => spX s (pa (Lib.cut s [45]).1) (pa (Lib.cut s [45]).2.1)
theorem vA_inA {f h l : Nat} (hv : vA f h l) : inA (h : Int) (l : Int) ∧ cAddr f h l = true := by
  rcases hv with ⟨rfl, q1, q2⟩ | ⟨rfl, rfl, q2⟩
  · exact ⟨⟨by omega, by omega, by omega, by omega⟩, by unfold cAddr; simp⟩
  · exact ⟨⟨by omega, by omega, by omega, by omega⟩, by unfold cAddr; simp; omega⟩
theorem vA_of {f h l : Nat} (hc : cAddr f h l = true) (hh : h < 18446744073709551616) (hl : l < 18446744073709551616) : vA f h l := by
  rcases cAddr_46 hc with e | e
  · obtain ⟨e1, e2⟩ := cAddr_4 hc e
    exact .inr ⟨by omega, by omega, by omega⟩
  · exact .inl ⟨by omega, hh, hl⟩
theorem ppT_no45 (f h l n : Nat) (hn : n < 18446744073709551616) : (45 : UInt8) ∉ ppT f h l n := by
  unfold ppT
  rw [List.mem_append, List.mem_cons]
  rintro (q | q | q)
  · exact addrT_no (c := 45) (.inl (by decide)) f h l q
  · exact absurd q (by decide)
  · exact dgs_no (b := 10) (by omega) (by omega) hn (c := 45) (.inl (by decide)) q
theorem sp_iff {s : List UInt8} {f h l h' l' : Nat} : sp s = some (f, h, l, h', l') ↔ (h < 18446744073709551616 ∧ l < 18446744073709551616 ∧ h' < 18446744073709551616 ∧ l' < 18446744073709551616) ∧ chkS f h l h' l' = 0 ∧ spT f h l h' l' = s := by
  constructor
  · intro e
    unfold sp at e
    cases hp : pp s with
    | some v =>
      obtain ⟨f2, h2, l2, n⟩ := v
      rw [hp] at e
      simp only [Option.some.injEq, Prod.mk.injEq] at e
      obtain ⟨rfl, rfl, rfl, e1, e2⟩ := e
      obtain ⟨hv, hc, ht⟩ := pp_iff.1 hp
      obtain ⟨hin, hca⟩ := vA_inA hv
      obtain ⟨k1, k2, k3⟩ := fst_last hin hc
      obtain ⟨a0, a1, b0, b1⟩ := k3
      have x1 : (lastA h2 l2 (widN f2 - n)).1 = (h' : Int) := by omega
      have x2 : (lastA h2 l2 (widN f2 - n)).2 = (l' : Int) := by omega
      rw [x1, x2] at k1 k2
      obtain ⟨i0, i1, i2, i3⟩ := hin
      refine ⟨⟨by omega, by omega, by omega, by omega⟩, k2, ?_⟩
      unfold spT
      rw [k1, if_pos (Prod.ext x1 x2)]
      exact ht
    | none =>
      rw [hp] at e
      simp only at e
      unfold spX at e
      split at e
      · rename_i f1 h1 l1 g h2 l2 q1 q2
        split at e
        · rename_i hq
          simp only [Option.some.injEq, Prod.mk.injEq] at e
          obtain ⟨rfl, rfl, rfl, rfl, rfl⟩ := e
          obtain ⟨i0, i1, i2, i3⟩ := (vA_inA (pa_iff.1 q1).1).1
          obtain ⟨j0, j1, j2, j3⟩ := (vA_inA (pa_iff.1 q2).1).1
          exact ⟨⟨by omega, by omega, by omega, by omega⟩, hq.2⟩
        · cases e
      · cases e
  · rintro ⟨⟨r1, r2, r3, r4⟩, hc, ht⟩
    have hin : inA (h : Int) (l : Int) := ⟨by omega, by omega, by omega, by omega⟩
    obtain ⟨c1, c2, c3⟩ := chkS_zero hc
    have v1 := vA_of c1 r1 r2
    have v2 := vA_of c2 r3 r4
    obtain ⟨k1, k2⟩ := fst_chk hin hc
    unfold spT at ht
    split at ht
    · rename_i hl
      have hp : pp s = some (f, h, l, fstN f h l h' l') := pp_iff.2 ⟨v1, k1, ht⟩
      unfold sp
      rw [hp]
      simp only [hl, Int.toNat_natCast]
    · rename_i hl
      have hno : ∀ a b c, (45 : UInt8) ∉ addrT a b c := fun a b c => addrT_no (c := 45) (.inl (by decide)) a b c
      have hp : pp s = none := by
        cases hq : pp s with
        | none => rfl
        | some v =>
          obtain ⟨f2, h2, l2, n⟩ := v
          obtain ⟨_, hcc, ht2⟩ := pp_iff.1 hq
          exfalso
          have := chk_le hcc
          refine ppT_no45 f2 h2 l2 n (by omega) ?_
          rw [ht2, ← ht]
          simp
      have hcut : Lib.cut s [45] = (addrT f h l, addrT f h' l', true) := by
        rw [cut_cutG (by simp), ← ht, cutG_at _ (hno f h l)]
      unfold sp
      rw [hp]
      simp only [hcut, pa_text v1, pa_text v2]
      unfold spX
      simp only
      rw [if_pos ⟨trivial, hc, by unfold spT; rw [if_neg hl, ht]⟩]
end Go.Proofs.YtbnjijffkjcmcaaDoor.AL
namespace Go.Proofs.YtbnjijffkjcmcaaDoor.AL
open Go
attribute [local simp] qf cv qbin ibin sbin qun retPost rvOk ctV ctPost marksOk retV resAll resOf V.lt ltL V.ren renL V.exp V.exp1 cleanL V.clean closedL V.closed V.cells V.one V.tree
  loadV cellsAt isNC nilQ isSlD isIfD slNew ownRows ownCells V.isOwn slStore srcO qlook mlook mget mstr zval qnone qmake mput lmap isAggD placesOf fillV putCells lstore bound seqParts V.sh shL Blk.sh newV V.ok peqs peq srcRows qbytes byteSl appOk mmV mmR hidE V.fz fzL Blk.fz fzOk and_assoc
attribute [-simp] Int.not_le Int.not_lt Nat.not_le Nat.not_lt
/-- A group of an address of 128 bits. -/
def grp (x : Int) (i : Nat) : Int := bAnd .u64 (bShr .u64 x (48 - 16 * (i : Int))) 65535
def grps (h l : Int) : List V := [.int .u64 (grp h 0), .int .u64 (grp h 1), .int .u64 (grp h 2), .int .u64 (grp h 3), .int .u64 (grp l 0), .int .u64 (grp l 1), .int .u64 (grp l 2), .int .u64 (grp l 3)]
def grpK (h l : Int) (k : Nat) : List V := [.int .u64 (if 0 < k then grp h 0 else 0), .int .u64 (if 1 < k then grp h 1 else 0), .int .u64 (if 2 < k then grp h 2 else 0), .int .u64 (if 3 < k then grp h 3 else 0),
  .int .u64 (if 0 < k then grp l 0 else 0), .int .u64 (if 1 < k then grp l 1 else 0), .int .u64 (if 2 < k then grp l 2 else 0), .int .u64 (if 3 < k then grp l 3 else 0)]
def SGrps : List V → Option Res
  | [.agg [.int .u64 h, .int .u64 l]] => some ⟨.agg (grps h l), []⟩
  | _ => none
theorem runs_groups : ∀ args r, SGrps args = some r → Runs Tryd.prog 74 args r := by
  intro args r hh
  unfold SGrps at hh
  split at hh
  · rename_i h l
    cases hh
    refine Runs.of_body Tryd.func74 (by decide) rfl (by simp [Tryd.f74]) ?_
    refine W.seqE (T0_ok _) mixed M0 (by kernel_rfl) ?_
    simp [Tryd.f74]
    refine W.seqE (T0_ok _) mixed M0 (by kernel_rfl) ?_
    simp
    refine W.cut True [(2, .ptr 0 0), (3, .ptr 1 0)] [.box 125 [.int .u64 0, .int .u64 0, .int .u64 0, .int .u64 0, .int .u64 0, .int .u64 0, .int .u64 0, .int .u64 0], .box 125 (grps h l)] 29 ?_ ?_
    · refine W.seqE (T0_ok _) mixed M0 (by kernel_rfl) ?_
      simp
      refine W.block (W.for (fun _ => True) (fun k => [(1, .ptr 0 0), (2, .ptr 1 0), (3, .ptr 2 0), (5, .int .i64 k)]) (fun k => [.box 24 [.int .u64 h, .int .u64 l], .box 125 [.int .u64 0, .int .u64 0, .int .u64 0, .int .u64 0, .int .u64 0, .int .u64 0, .int .u64 0, .int .u64 0], .box 125 (grpK h l k)]) 29 4 trivial ?_ ?_)
      · simp [grpK]
      · intro k hk _
        have w2 : IntKind.i64.wrap 48 = 48 := by decide
        have w3 : IntKind.i64.wrap 32 = 32 := by decide
        have w4 : IntKind.i64.wrap 16 = 16 := by decide
        have w0 : IntKind.i64.wrap 0 = 0 := by decide
        have v1 : IntKind.i64.wrap 1 = 1 := by decide
        have v2 : IntKind.i64.wrap 2 = 2 := by decide
        have v3 : IntKind.i64.wrap 3 = 3 := by decide
        have v4 : IntKind.i64.wrap 4 = 4 := by decide
        have v5 : IntKind.i64.wrap 5 = 5 := by decide
        have v6 : IntKind.i64.wrap 6 = 6 := by decide
        have v7 : IntKind.i64.wrap 7 = 7 := by decide
        refine W.of_WE (T0_ok _) mixed M0 _ (by kernel_rfl) ?_
        match k, hk with
        | 0, _ => simp [grpK, grp, w2, w3, w4, w0, v1, v2, v3, v4, v5, v6, v7]
        | 1, _ => simp [grpK, grp, w2, w3, w4, w0, v1, v2, v3, v4, v5, v6, v7]
        | 2, _ => simp [grpK, grp, w2, w3, w4, w0, v1, v2, v3, v4, v5, v6, v7]
        | 3, _ => simp [grpK, grp, w2, w3, w4, w0, v1, v2, v3, v4, v5, v6, v7]
        | 4, _ => simp [grpK, grps]
    intro _
    refine W.of_WE (T0_ok _) mixed M0 _ (by kernel_rfl) ?_
    simp [grps]
  · cases hh
/-- How many zeros begin at a place. -/
def zrun : List Int → Nat
  | [] => 0
  | x :: l => if x = 0 then zrun l + 1 else 0
def gInts (l : List Int) : List V := l.map fun x => .int .u64 x
@[simp] theorem gInts_len (l : List Int) : (gInts l).length = l.length := by simp [gInts]
@[simp] theorem gInts_get (l : List Int) (i : Nat) (h : i < (gInts l).length) : (gInts l)[i] = .int .u64 (l[i]'(by simpa using h)) := by simp [gInts]
theorem zrun_drop {l : List Int} {i : Nat} (h : i < l.length) : zrun (l.drop i) = if l[i] = 0 then zrun (l.drop (i + 1)) + 1 else 0 := by
  rw [List.drop_eq_getElem_cons h]; rfl
def SRun : List V → Option Res
  | [.int .i64 i, .rptr row 0] => match row with
    | [.int .u64 a, .int .u64 b, .int .u64 c, .int .u64 d, .int .u64 e, .int .u64 f, .int .u64 g, .int .u64 h] => if 0 ≤ i ∧ i ≤ 8 then some ⟨.int .i64 (zrun (([a, b, c, d, e, f, g, h] : List Int).drop i.toNat) : Int), []⟩ else none
    | _ => none
  | _ => none
theorem runs_run : ∀ args r, SRun args = some r → Runs Tryd.prog 75 args r := by
  intro args r hh
  unfold SRun at hh
  split at hh
  · rename_i i0 row
    split at hh
    · rename_i a b c d e f g h
      split at hh
      · rename_i hin
        obtain ⟨i, rfl⟩ := Int.eq_ofNat_of_zero_le hin.1
        cases hh
        obtain ⟨L, hL⟩ : ∃ L : List Int, L = [a, b, c, d, e, f, g, h] := ⟨_, rfl⟩
        have hl8 : L.length = 8 := by rw [hL]; rfl
        have hrow : [V.int .u64 a, .int .u64 b, .int .u64 c, .int .u64 d, .int .u64 e, .int .u64 f, .int .u64 g, .int .u64 h] = gInts L := by rw [hL]; rfl
        rw [hrow, ← hL]
        change Runs _ _ [.int .i64 (i : Int), .rptr (gInts L) 0] ⟨.int .i64 (zrun (L.drop i) : Int), []⟩
        refine Runs.of_body Tryd.func75 (by decide) rfl (by simp [Tryd.f75]) ?_
        refine W.seqE (T0_ok _) mixed M0 (by kernel_rfl) ?_
        simp [Tryd.f75]
        refine W.seqE (T0_ok _) mixed M0 (by kernel_rfl) ?_
        simp
        refine W.cut True [(4, .int .i64 (zrun (L.drop i) : Int))] [] 20 ?_ ?_
        · refine W.block (W.for (fun k => i + k ≤ 8 ∧ zrun (L.drop i) = k + zrun (L.drop (i + k))) (fun k => [(0, .int .i64 i), (1, .rptr (gInts L) 0), (4, .int .i64 k)]) (fun _ => []) 20 8 ⟨by omega, by simp⟩ ?_ ?_)
          · simp
          · intro k hk hJ
            have hw1 : IntKind.i64.wrap ((k : Int) + 1) = k + 1 := wr_i64 (by omega) (by omega)
            have hw2 : IntKind.i64.wrap ((i : Int) + k) = i + k := wr_i64 (by omega) (by omega)
            have hn : ((i : Int) + k).toNat = i + k := by omega
            refine W.of_WE (T0_ok _) mixed M0 _ (by kernel_rfl) ?_
            by_cases hlt : i + k < 8
            · have hlt' : (i : Int) + k < 8 := by omega
              have hlL : i + k < L.length := by omega
              have hz := zrun_drop hlL
              have hnn : (0 : Int) ≤ (i : Int) + k := by omega
              have hd : List.drop (i + k) (gInts L) = .int .u64 L[i + k] :: List.drop (i + k + 1) (gInts L) := by
                rw [List.drop_eq_getElem_cons (by simpa using hlL)]; simp
              by_cases h0 : L[i + k] = 0
              · rw [if_pos h0] at hz
                simp [hlt', hw1, hw2, hn, hlL, hl8, hd, h0, hnn]
                exact ⟨by omega, by omega, by have h9 := hJ.2; rw [hz] at h9; rw [show i + (k + 1) = i + k + 1 from rfl]; omega⟩
              · rw [if_neg h0] at hz
                have he : zrun (L.drop i) = k := by omega
                simp [hlt', hw1, hw2, hn, hlL, hl8, hd, h0, hnn, he]
            · have h8 : i + k = 8 := by omega
              have hz : zrun (L.drop (i + k)) = 0 := by rw [h8, List.drop_eq_nil_of_le (by omega)]; rfl
              have he : zrun (L.drop i) = k := by omega
              have hlt' : ¬ (i : Int) + k < 8 := by omega
              simp [hlt', hw2, he]
        intro _
        refine W.of_WE (T0_ok _) mixed M0 _ (by kernel_rfl) ?_
        simp
      · cases hh
    · cases hh
  · cases hh

end Go.Proofs.YtbnjijffkjcmcaaDoor.AL
