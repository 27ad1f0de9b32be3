import Derived.Test.YtbnjijffkjcmcaaGreatDoorZW10
/- What single functions compute: a part of the proof; no conditions. -/
set_option linter.unusedVariables false
set_option linter.unusedSimpArgs false
set_option linter.unusedSectionVars false
set_option maxRecDepth 100000
namespace Go.Proofs.YtbnjijffkjcmcaaGreatDoor.AL
open Go
/-! For the reference's reading. -/
def vN (c : UInt8) : Nat := if 48 ≤ c.toNat ∧ c.toNat ≤ 57 then c.toNat - 48 else if 97 ≤ c.toNat ∧ c.toNat ≤ 102 then c.toNat - 87 else 99
theorem vN_dval {b : Nat} (hb : b ≤ 16) (c : UInt8) : dval b c = if vN c < b then some (vN c) else none := by
  unfold dval vN
  by_cases h1 : 48 ≤ c.toNat ∧ c.toNat ≤ 57
  · rw [if_pos h1, if_pos h1]
  · rw [if_neg h1, if_neg h1]
    by_cases h2 : 97 ≤ c.toNat ∧ c.toNat ≤ 102
    · rw [if_pos h2, if_pos h2]
    · rw [if_neg h2, if_neg h2, if_neg (by omega)]
theorem valF_split (b : Nat) : ∀ (l m : List UInt8) (n : Nat), valF b n (l ++ m) = match valF b n l with | some k => valF b k m | none => none
  | [], m, n => rfl
  | x :: l, m, n => by
    simp only [List.cons_append, valF]
    cases dval b x with
    | none => rfl
    | some d => exact valF_split b l m _
/-- The number so far. -/
def nvF (b : Nat) (l : List UInt8) (k : Nat) : Nat := (valF b 0 (l.take k)).getD 0
theorem nvF_step {b : Nat} (hb : b ≤ 16) {l : List UInt8} {k : Nat} (hk : k < l.length) (h : (valF b 0 (l.take k)).isSome = true) :
    (vN l[k] < b → (valF b 0 (l.take (k + 1))).isSome = true ∧ nvF b l (k + 1) = nvF b l k * b + vN l[k]) ∧ (¬ vN l[k] < b → valF b 0 l = none) := by
  obtain ⟨m, hm⟩ := Option.isSome_iff_exists.1 h
  have e : valF b 0 (l.take (k + 1)) = (dval b l[k]).map (m * b + ·) := by
    rw [List.take_succ_eq_append_getElem hk, valF_app, hm]
  have hv := vN_dval hb l[k]
  constructor
  · intro hd
    rw [if_pos hd] at hv
    rw [hv] at e
    refine ⟨by rw [e]; rfl, ?_⟩
    unfold nvF
    rw [e, hm]; rfl
  · intro hd
    rw [if_neg hd] at hv
    have e2 : l = l.take (k + 1) ++ l.drop (k + 1) := (List.take_append_drop _ _).symm
    rw [e2, valF_split, e, hv]; rfl
theorem nvF_bd {b : Nat} (hb : 1 ≤ b) (hb' : b ≤ 16) {l : List UInt8} {k : Nat} (hl : l.length ≤ 10) (h : (valF b 0 (l.take k)).isSome = true) : nvF b l k < 1099511627776 := by
  obtain ⟨m, hm⟩ := Option.isSome_iff_exists.1 h
  have h1 := valF_bd b _ _ _ hm
  have h2 : (l.take k).length ≤ 10 := by simp; omega
  have h3 : b ^ (l.take k).length ≤ 16 ^ 10 := Nat.le_trans (Nat.pow_le_pow_left hb' _) (Nat.pow_le_pow_right (by omega) h2)
  have h4 : (16 : Nat) ^ 10 = 1099511627776 := by decide
  unfold nvF
  rw [hm]
  show m < _
  omega
theorem rgs_all {b lim : Nat} : ∀ (ps : List (List UInt8)), rgs b lim ps = if ps.all (fun p => (rnum b lim p).2) = true then some (ps.map fun p => (rnum b lim p).1) else none
  | [] => rfl
  | p :: ps => by
    unfold rgs
    rw [rgs_all ps]
    by_cases h1 : (rnum b lim p).2 = true
    · rw [if_pos h1]
      by_cases h2 : ps.all (fun p => (rnum b lim p).2) = true
      · rw [if_pos h2, if_pos (by simp [h1, h2])]; rfl
      · rw [if_neg h2, if_neg (by simp only [List.all_cons, h1, Bool.true_and]; exact h2)]; rfl
    · rw [if_neg h1, if_neg (by simp only [List.all_cons, Bool.and_eq_true]; exact fun q => h1 q.1)]
/-- The parts so far, and where the next begins. -/
def prt (c : UInt8) (l : List UInt8) : Nat → List (List UInt8) × Nat
  | 0 => ([], 0)
  | k + 1 => if l.getD k 0 = c then ((prt c l k).1 ++ [(l.drop (prt c l k).2).take (k - (prt c l k).2)], k + 1) else prt c l k
theorem prt_ok (c : UInt8) (l : List UInt8) : ∀ k, k ≤ l.length → (prt c l k).2 ≤ k ∧ c ∉ (l.drop (prt c l k).2).take (k - (prt c l k).2) ∧ spl c l = (prt c l k).1 ++ spl c (l.drop (prt c l k).2) ∧ (prt c l k).1.length ≤ k
  | 0, _ => ⟨Nat.le_refl _, by simp [prt], by simp [prt], by simp [prt]⟩
  | k + 1, hk => by
    obtain ⟨h1, h2, h3, h4⟩ := prt_ok c l k (by omega)
    have hlt : k < l.length := by omega
    have hg : l.getD k 0 = l[k] := by rw [List.getD_eq_getElem?_getD, List.getElem?_eq_getElem hlt]; rfl
    unfold prt
    generalize prt c l k = P at *
    obtain ⟨ps, q⟩ := P
    simp only at h1 h2 h3 h4 ⊢
    rw [hg]
    have hsplit : l.drop q = (l.drop q).take (k - q) ++ l[k] :: l.drop (k + 1) := by
      conv => lhs; rw [← List.take_append_drop (k - q) (l.drop q)]
      rw [List.drop_drop, show q + (k - q) = k by omega, List.drop_eq_getElem_cons hlt]
    by_cases he : l[k] = c
    · rw [if_pos he]
      refine ⟨Nat.le_refl _, by simp, ?_, by simp; omega⟩
      simp only
      rw [h3]
      have e := congrArg (spl c) hsplit
      rw [he, spl_app _ h2] at e
      rw [e]
      simp
    · rw [if_neg he]
      refine ⟨by simp only; omega, ?_, h3, by simp only; omega⟩
      simp only
      rw [show k + 1 - q = (k - q) + 1 by omega]
      intro hm
      have hlen : k - q < (l.drop q).length := by simp; omega
      rw [List.take_succ_eq_append_getElem hlen, List.mem_append] at hm
      rcases hm with hm | hm
      · exact h2 hm
      · simp only [List.getElem_drop, List.mem_singleton] at hm
        have e : l[q + (k - q)]'(by omega) = l[k] := by congr 1; omega
        rw [e] at hm
        exact he hm.symm
theorem prt_end (c : UInt8) (l : List UInt8) : spl c l = (prt c l l.length).1 ++ [l.drop (prt c l l.length).2] := by
  obtain ⟨h1, h2, h3, h4⟩ := prt_ok c l l.length (Nat.le_refl _)
  rw [h3]
  congr 1
  rw [List.take_of_length_le (by simp)] at h2
  exact spl_none h2
theorem cut2_no {l : List UInt8} (h : ∀ k, k + 1 < l.length → ¬ (l.getD k 0 = 58 ∧ l.getD (k + 1) 0 = 58)) : cut2 l = none := by
  cases hc : cut2 l with
  | none => rfl
  | some p =>
    obtain ⟨a, b⟩ := p
    have e := cut2_some hc
    have := h a.length (by rw [e]; simp)
    exfalso
    apply this
    rw [e]
    simp [List.getD_eq_getElem?_getD]
theorem cut2_at : ∀ {l : List UInt8} {k : Nat}, k + 1 < l.length → l.getD k 0 = 58 → l.getD (k + 1) 0 = 58 → (∀ j, j < k → ¬ (l.getD j 0 = 58 ∧ l.getD (j + 1) 0 = 58)) → cut2 l = some (l.take k, l.drop (k + 2))
  | x :: y :: l, 0, h, h1, h2, _ => by
    simp at h1 h2
    subst h1; subst h2
    simp [cut2]
  | [x], k, h, _, _, _ => by simp at h
  | [], k, h, _, _, _ => by simp at h
  | x :: y :: l, k + 1, h, h1, h2, h3 => by
    have ih := cut2_at (l := y :: l) (k := k) (by simp at h ⊢; omega) (by simpa using h1) (by simpa using h2) (fun j hj => by have := h3 (j + 1) (by omega); simpa using this)
    have h0 := h3 0 (by omega)
    by_cases hx : x = 58
    · have hy : y ≠ 58 := fun hy => h0 ⟨by simp [hx], by simp [hy]⟩
      rw [show cut2 (x :: y :: l) = (cut2 (y :: l)).map fun p => (x :: p.1, p.2) by rw [cut2, if_neg (fun e => hy e.2)], ih]
      rfl
    · rw [cut2_ne hx, ih]; rfl
end Go.Proofs.YtbnjijffkjcmcaaGreatDoor.AL
namespace Go.Proofs.YtbnjijffkjcmcaaGreatDoor.AL
open Go
attribute [local simp] qf cv qbin ibin sbin qun retPost rvOk ctV ctPost marksOk retV resAll resOf V.lt ltL V.ren renL V.exp V.exp1 cleanL V.clean closedL V.closed V.cells V.one V.tree
  loadV cellsAt isNC nilQ isSlD isIfD slNew ownRows ownCells V.isOwn slStore srcO qlook mlook mget mstr zval qnone qmake mput lmap isAggD placesOf fillV putCells lstore bound seqParts V.sh shL Blk.sh newV V.ok peqs peq srcRows qbytes byteSl appOk mmV mmR hidE V.fz fzL Blk.fz fzOk and_assoc
attribute [-simp] Int.not_le Int.not_lt Nat.not_le Nat.not_lt
/-! The reference's numbers, parts and groups. -/
def SVal : List V → Option Res
  | [.int .u8 c, .int .u64 b] => if 0 ≤ c ∧ c < 256 then some ⟨.tup [.int .u64 (vN (UInt8.ofNat c.toNat) : Nat), .bool (decide (((vN (UInt8.ofNat c.toNat) : Nat) : Int) < b))], []⟩ else none
  | _ => none
def M_f73 : Md := fun i => some #[]
@[simp] theorem M_f73_eq {i : Nat} : M_f73 i = (some #[]) := rfl
theorem runs_ref01_value : ∀ args r, SVal args = some r → Runs Tryz.prog 73 args r := by
  intro args r hh
  unfold SVal at hh
  split at hh
  · rename_i c b
    split at hh
    · rename_i hin
      cases hh
      obtain ⟨c, rfl⟩ : ∃ k : Nat, c = k := ⟨c.toNat, by omega⟩
      have hu : (UInt8.ofNat c).toNat = c := by simp; omega
      have hv : vN (UInt8.ofNat c) = if 48 ≤ c ∧ c ≤ 57 then c - 48 else if 97 ≤ c ∧ c ≤ 102 then c - 87 else 99 := by unfold vN; rw [hu]
      rw [Int.toNat_natCast, hv]
      refine Runs.of_body Tryz.func73 (by decide) rfl (by simp [Tryz.f73]) ?_
      refine W.of_WE (T0_ok _) mixed M_f73 _ (by kernel_rfl) ?_
      by_cases h1 : 48 ≤ c ∧ c ≤ 57
      · rw [if_pos h1]
        have e0 : ((c - 48 : Nat) : Int) = (c : Int) - 48 := by omega
        rw [e0]
        have w1 : IntKind.u8.wrap ((c : Int) - 48) = (c : Int) - 48 := wr_u8 (by omega) (by omega)
        have w2 : IntKind.u64.wrap ((c : Int) - 48) = (c : Int) - 48 := wr_u64 (by omega) (by omega)
        simp [Tryz.f73, w1, w2, show (48 : Int) ≤ (c : Int) by omega, show (c : Int) ≤ 57 by omega, show ¬ (97 : Int) ≤ (c : Int) by omega]
      · rw [if_neg h1]
        by_cases h2 : 97 ≤ c ∧ c ≤ 102
        · rw [if_pos h2]
          have e0 : ((c - 87 : Nat) : Int) = (c : Int) - 97 + 10 := by omega
          rw [e0]
          have w1 : IntKind.u8.wrap ((c : Int) - 97) = (c : Int) - 97 := wr_u8 (by omega) (by omega)
          have w2 : IntKind.u64.wrap ((c : Int) - 97) = (c : Int) - 97 := wr_u64 (by omega) (by omega)
          have w3 : IntKind.u64.wrap ((c : Int) - 97 + 10) = (c : Int) - 97 + 10 := wr_u64 (by omega) (by omega)
          simp [Tryz.f73, w1, w2, w3, show (48 : Int) ≤ (c : Int) by omega, show ¬ (c : Int) ≤ 57 by omega, show (97 : Int) ≤ (c : Int) by omega, show (c : Int) ≤ 102 by omega]
        · rw [if_neg h2]
          by_cases h3 : (48 : Int) ≤ (c : Int)
          · have h4 : ¬ (c : Int) ≤ 57 := by omega
            by_cases h5 : (97 : Int) ≤ (c : Int)
            · have h6 : ¬ (c : Int) ≤ 102 := by omega
              simp [Tryz.f73, h3, h4, h5, h6]
            · simp [Tryz.f73, h3, h4, h5]
          · have h5 : ¬ (97 : Int) ≤ (c : Int) := by omega
            simp [Tryz.f73, h3, h5]
    · cases hh
  · cases hh
theorem val_at (c : UInt8) (b : Nat) : SVal [.int .u8 (c.toNat : Int), .int .u64 (b : Int)] = some ⟨.tup [.int .u64 (vN c : Nat), .bool (decide (vN c < b))], []⟩ := by
  have := c.toNat_lt
  simp only [SVal]
  rw [if_pos ⟨by omega, by omega⟩, Int.toNat_natCast, show UInt8.ofNat c.toNat = c from by simp]
  simp
noncomputable def SNm : List V → Option Res
  | [.str s, .int .u64 b, .int .u64 lim] => ifC ((b = 10 ∨ b = 16) ∧ (0 ≤ lim ∧ lim < 18446744073709551616) ∧ s.size < 100000) (some ⟨.tup [.int .u64 ((rnum b.toNat lim.toNat s.data.toList).1 : Nat), .bool (rnum b.toNat lim.toNat s.data.toList).2], []⟩)
  | _ => none
theorem nm_at {l : List UInt8} {b lim : Nat} (hb : b = 10 ∨ b = 16) (hlim : lim < 18446744073709551616) (hl : l.length < 100000) :
    SNm [.str (bs l), .int .u64 (b : Int), .int .u64 (lim : Int)] = some ⟨.tup [.int .u64 ((rnum b lim l).1 : Nat), .bool (rnum b lim l).2], []⟩ := by
  simp only [SNm, bs_size, bs_data]
  rw [ifC_pos ⟨by omega, ⟨by omega, by omega⟩, hl⟩]
  rfl
def M_f46 : Md := fun i => some #[]
@[simp] theorem M_f46_eq {i : Nat} : M_f46 i = (some #[]) := rfl
theorem runs_ref01_Number : ∀ args r, SNm args = some r → Runs Tryz.prog 46 args r := by
  intro args r hh
  unfold SNm ifC at hh
  split at hh
  · rename_i s0 b0 lim0
    obtain ⟨l, rfl⟩ := bs_ex s0
    rw [bs_size, bs_data] at hh
    split at hh
    · rename_i hin
      obtain ⟨hb0, hlim, hlen⟩ := hin
      obtain ⟨b, rfl⟩ : ∃ k : Nat, b0 = k := ⟨b0.toNat, by omega⟩
      obtain ⟨lim, rfl⟩ : ∃ k : Nat, lim0 = k := ⟨lim0.toNat, by omega⟩
      cases hh
      simp only [Int.toNat_natCast]
      have hb : b = 10 ∨ b = 16 := by omega
      have hT : (T0.add 73 SVal).ok Tryz.prog := Tab.add_ok (T0_ok _) runs_ref01_value
      have hsz := bs_size l
      refine Runs.of_body Tryz.func46 (by decide) rfl (by simp [Tryz.f46]) ?_
      refine W.seqE hT mixed M_f46 (by kernel_rfl) ?_
      simp [Tryz.f46]
      by_cases hg : l.length = 0 ∨ 10 < l.length ∨ (1 < l.length ∧ l.head? = some 48)
      · have hr : rnum b lim l = (0, false) := by unfold rnum; rw [if_pos hg]
        rw [hr]
        refine W.cut False [] [] 55 ?_ (fun h => h.elim)
        refine W.of_WE hT mixed M_f46 _ (by kernel_rfl) ?_
        by_cases h0 : l.length = 0
        · simp [Tryz.f46, hsz, h0]
        · by_cases h1 : 10 < l.length
          · simp [Tryz.f46, hsz, h0, show (10 : Int) < l.length by omega]
          · have h2 : 1 < l.length ∧ l.head? = some 48 := by
              rcases hg with q | q | q
              · exact absurd q h0
              · exact absurd q h1
              · exact q
            obtain ⟨x, m, rfl⟩ : ∃ x m, l = x :: m := by
              cases l with
              | nil => exact absurd rfl h0
              | cons x m => exact ⟨x, m, rfl⟩
            have hx : x = 48 := by simpa using h2.2
            subst hx
            have hs : sat (bs (48 :: m)) 0 = 48 := rfl
            have hm : (48 :: m : List UInt8).length ≠ 0 := h0
            rw [List.length_cons] at hsz h1 h2
            simp [Tryz.f46, hsz, hs, show ¬ (10 : Int) < (m.length : Int) + 1 by omega, show (1 : Int) < (m.length : Int) + 1 by omega, show ¬ (m.length : Int) + 1 = 0 by omega]
      · have h0 : ¬ l.length = 0 := fun q => hg (.inl q)
        have h1 : ¬ 10 < l.length := fun q => hg (.inr (.inl q))
        have h2 : ¬ (1 < l.length ∧ l.head? = some 48) := fun q => hg (.inr (.inr q))
        refine W.cut True [(0, .str (bs l)), (1, .int .u64 b), (2, .int .u64 lim)] [] 55 ?_ ?_
        · refine W.of_WE hT mixed M_f46 _ (by kernel_rfl) ?_
          by_cases h3 : 1 < l.length
          · have hs : ¬ sat (bs l) 0 = 48 := by
              obtain ⟨x, m, rfl⟩ : ∃ x m, l = x :: m := by
                cases l with
                | nil => exact absurd rfl h0
                | cons x m => exact ⟨x, m, rfl⟩
              intro e
              apply h2
              refine ⟨h3, ?_⟩
              rw [bs_sat] at e
              have e' : ((x.toNat : Nat) : Int) = 48 := e
              have : x.toNat = 48 := by omega
              rw [List.head?_cons]
              congr 1
              exact UInt8.toNat_inj.1 this
            simp [Tryz.f46, hsz, h0, hs, show ¬ (10 : Int) < l.length by omega, show (1 : Int) < l.length by omega]
            omega
          · simp [Tryz.f46, hsz, h0, show ¬ (10 : Int) < l.length by omega, show ¬ (1 : Int) < l.length by omega]
        intro _
        refine W.seqE hT mixed M_f46 (by kernel_rfl) ?_
        simp [Tryz.f46]
        refine W.cut ((valF b 0 l).isSome = true) [(2, .int .u64 lim), (8, .int .u64 (nvF b l l.length : Nat))] [] 55 ?_ ?_
        · refine W.seqE hT mixed M_f46 (by kernel_rfl) ?_
          simp [Tryz.f46]
          refine W.block (W.for (fun k => (valF b 0 (l.take k)).isSome = true) (fun k => [(0, .str (bs l)), (1, .int .u64 b), (2, .int .u64 lim), (8, .int .u64 (nvF b l k : Nat)), (9, .int .i64 k)]) (fun _ => []) 55 l.length (by simp [valF]) ?_ ?_)
          · simp [nvF, valF]
          · intro k hk hJ
            refine W.of_WE hT mixed M_f46 _ (by kernel_rfl) ?_
            by_cases hlt : k < l.length
            · obtain ⟨st1, st2⟩ := nvF_step (b := b) (by omega) hlt hJ
              have hva := val_at l[k] b
              have hbd := nvF_bd (b := b) (by omega) (by omega) (by omega) hJ
              have hs : sat (bs l) (k : Int) = (l[k].toNat : Int) := by rw [bs_sat, Int.toNat_natCast, List.getD_eq_getElem?_getD, List.getElem?_eq_getElem hlt]; rfl
              have w1 : IntKind.i64.wrap ((k : Int) + 1) = (k : Int) + 1 := by rw [wr_i64 (by omega) (by omega)]
              by_cases hv : vN l[k] < b
              · obtain ⟨hJ', hn⟩ := st1 hv
                have hm : nvF b l k * b ≤ nvF b l k * 16 := Nat.mul_le_mul_left _ (by omega)
                have w2 : IntKind.u64.wrap (IntKind.u64.wrap ((nvF b l k : Int) * (b : Int)) + (vN l[k] : Int)) = ((nvF b l (k + 1) : Nat) : Int) := by
                  rw [hn, ← Int.natCast_mul, wr_u64 (x := ((nvF b l k * b : Nat) : Int)) (by omega) (by omega), wr_u64 (by omega) (by omega)]
                  omega
                generalize l[k] = x at *
                simp [hlt, hsz, hs, hva, hv, w1, w2, hJ']
              · have hnone := st2 hv
                have hr : rnum b lim l = (0, false) := by unfold rnum; rw [if_neg hg, hnone]
                rw [hr]
                simp [Tryz.f46, hlt, hsz, hs, hva, hv]
            · obtain rfl : k = l.length := by omega
              rw [List.take_length] at hJ
              simp [hsz, hJ]
        intro hS
        obtain ⟨m, hm⟩ := Option.isSome_iff_exists.1 hS
        have hnv : nvF b l l.length = m := by unfold nvF; rw [List.take_length, hm]; rfl
        have hr : rnum b lim l = (m, decide (m ≤ lim)) := by unfold rnum; rw [if_neg hg, hm]
        rw [hr, hnv]
        refine W.of_WE hT mixed M_f46 _ (by kernel_rfl) ?_
        simp [Tryz.f46]
    · cases hh
  · cases hh

end Go.Proofs.YtbnjijffkjcmcaaGreatDoor.AL
namespace Go.Proofs.YtbnjijffkjcmcaaGreatDoor.AL
open Go
attribute [local simp] qf cv qbin ibin sbin qun retPost rvOk ctV ctPost marksOk retV resAll resOf V.lt ltL V.ren renL V.exp V.exp1 cleanL V.clean closedL V.closed V.cells V.one V.tree
  loadV cellsAt isNC nilQ isSlD isIfD slNew ownRows ownCells V.isOwn slStore srcO qlook mlook mget mstr zval qnone qmake mput lmap isAggD placesOf fillV putCells lstore bound seqParts V.sh shL Blk.sh newV V.ok peqs peq srcRows qbytes byteSl appOk mmV mmR hidE V.fz fzL Blk.fz fzOk and_assoc
attribute [-simp] Int.not_le Int.not_lt Nat.not_le Nat.not_lt
/-! The reference's parts. -/
noncomputable def SPrt : List V → Option Res
  | [.str s, .int .u8 c] => ifC (s.size < 100000 ∧ 0 ≤ c ∧ c < 256) (some ⟨.own 0, [.sl 1 9 (bRows (spl (UInt8.ofNat c.toNat) s.data.toList))]⟩)
  | _ => none
theorem prt_at {l : List UInt8} (c : UInt8) (h : l.length < 100000) : SPrt [.str (bs l), .int .u8 (c.toNat : Int)] = some ⟨.own 0, [.sl 1 9 (bRows (spl c l))]⟩ := by
  have := c.toNat_lt
  simp only [SPrt, bs_size, bs_data]
  rw [ifC_pos ⟨h, by omega, by omega⟩, Int.toNat_natCast, show UInt8.ofNat c.toNat = c from by simp]
theorem bRows_snoc (ps : List (List UInt8)) (p : List UInt8) : bRows ps ++ [[.str (bs p)]] = bRows (ps ++ [p]) := by unfold bRows; rw [List.map_append]; rfl
def M_f22 : Md := fun i => some #[]
@[simp] theorem M_f22_eq {i : Nat} : M_f22 i = (some #[]) := rfl
theorem runs_ref01_Parts : ∀ args r, SPrt args = some r → Runs Tryz.prog 22 args r := by
  intro args r hh
  unfold SPrt ifC at hh
  split at hh
  · rename_i s0 c0
    obtain ⟨l, rfl⟩ := bs_ex s0
    rw [bs_size, bs_data] at hh
    split at hh
    · rename_i hin
      obtain ⟨hlen, hc0, hc1⟩ := hin
      obtain ⟨c, rfl⟩ : ∃ c : UInt8, c0 = (c.toNat : Int) := ⟨UInt8.ofNat c0.toNat, by simp; omega⟩
      cases hh
      rw [Int.toNat_natCast, show UInt8.ofNat c.toNat = c from by simp]
      have hsz := bs_size l
      have hT := T0_ok Tryz.prog
      refine Runs.of_body Tryz.func22 (by decide) rfl (by simp [Tryz.f22]) ?_
      refine W.seqE hT mixed M_f22 (by kernel_rfl) ?_
      simp [Tryz.f22]
      refine W.seqE hT mixed M_f22 (by kernel_rfl) ?_
      simp
      refine W.seqE hT mixed M_f22 (by kernel_rfl) ?_
      simp
      refine W.wk (Wk.adopt 5 1 9 (by omega) (by simp)) ?_
      refine W.cut True [(0, .str (bs l)), (5, .own 0), (6, .int .i64 ((prt c l l.length).2 : Nat))] [.sl 1 9 (bRows (prt c l l.length).1)] 34 ?_ ?_
      · refine W.seqE hT mixed M_f22 (by kernel_rfl) ?_
        simp [Tryz.f22]
        refine W.block (W.for (fun _ => True) (fun k => [(0, .str (bs l)), (1, .int .u8 c.toNat), (5, .own 0), (6, .int .i64 ((prt c l k).2 : Nat)), (7, .int .i64 k)]) (fun k => [.sl 1 9 (bRows (prt c l k).1)]) 34 l.length trivial ?_ ?_)
        · simp [prt, bRows]
        · intro k hk _
          refine W.of_WE hT mixed M_f22 _ (by kernel_rfl) ?_
          by_cases hlt : k < l.length
          · obtain ⟨p1, p2, p3, p4⟩ := prt_ok c l k hk
            have hs : sat (bs l) (k : Int) = (l[k].toNat : Int) := by rw [bs_sat, Int.toNat_natCast, List.getD_eq_getElem?_getD, List.getElem?_eq_getElem hlt]; rfl
            have hg : l.getD k 0 = l[k] := by rw [List.getD_eq_getElem?_getD, List.getElem?_eq_getElem hlt]; rfl
            have w1 : IntKind.i64.wrap ((k : Int) + 1) = (k : Int) + 1 := by rw [wr_i64 (by omega) (by omega)]
            have he := bs_extract l (prt c l k).2 k
            have hn := bRows_snoc (prt c l k).1 ((l.drop (prt c l k).2).take (k - (prt c l k).2))
            have hr := bRows_len (prt c l k).1
            have h1 : prt c l (k + 1) = if l.getD k 0 = c then ((prt c l k).1 ++ [(l.drop (prt c l k).2).take (k - (prt c l k).2)], k + 1) else prt c l k := rfl
            rw [hg] at h1
            by_cases hx : l[k] = c
            · rw [if_pos hx] at h1
              rw [h1]
              have hsc : sat (bs l) (k : Int) = (c.toNat : Int) := by rw [hs, hx]
              generalize prt c l k = P at *
              obtain ⟨ps, q⟩ := P
              simp only at *
              generalize bRows ps = R1 at *
              generalize (l.drop q).take (k - q) = p at *
              simp [hlt, hsz, hsc, w1, he, hn, hr, p1]
              omega
            · rw [if_neg hx] at h1
              rw [h1]
              have hsc : ¬ (l[k].toNat : Int) = (c.toNat : Int) := by
                intro e
                exact hx (UInt8.toNat_inj.1 (by omega))
              simp [hlt, hsz, hs, hsc, w1]
          · obtain rfl : k = l.length := by omega
            simp [hsz]
      intro _
      have hend := prt_end c l
      obtain ⟨p1, p2, p3, p4⟩ := prt_ok c l l.length (Nat.le_refl _)
      rw [hend]
      have hn := bRows_snoc (prt c l l.length).1 (l.drop (prt c l l.length).2)
      have he : (bs l).extract (prt c l l.length).2 l.length = bs (l.drop (prt c l l.length).2) := by rw [bs_extract, List.take_of_length_le (by simp)]
      have hr := bRows_len (prt c l l.length).1
      generalize prt c l l.length = P at *
      obtain ⟨ps, q⟩ := P
      simp only at *
      rw [← hn]
      generalize bRows ps = R1 at *
      refine W.of_WE hT mixed M_f22 _ (by kernel_rfl) ?_
      simp [Tryz.f22, hsz, he, hr]
      omega
    · cases hh
  · cases hh

end Go.Proofs.YtbnjijffkjcmcaaGreatDoor.AL
namespace Go.Proofs.YtbnjijffkjcmcaaGreatDoor.AL
open Go
/-! The reference's reading of an address, in the order in which it is done. -/
def rgL (c : UInt8) (b lim : Nat) (l : List UInt8) : List Nat := (rgr c b lim l).getD []
def is6 (l : List UInt8) : Bool := match cut2 l with
  | some (a, b) => (rgr 58 16 65535 a).isSome && (rgr 58 16 65535 b).isSome
  | none => (rgr 58 16 65535 l).isSome
def L6 (l : List UInt8) : List Nat := match cut2 l with
  | some (a, b) => rgL 58 16 65535 a ++ List.replicate (8 - ((rgL 58 16 65535 a).length + (rgL 58 16 65535 b).length)) 0 ++ rgL 58 16 65535 b
  | none => rgL 58 16 65535 l
theorem r6_eq (l : List UInt8) : r6 l = if is6 l = true then some (L6 l) else none := by
  unfold r6 is6 L6 rgL
  cases cut2 l with
  | some p =>
    obtain ⟨a, b⟩ := p
    simp only
    cases rgr 58 16 65535 a with
    | none => rfl
    | some x =>
      cases rgr 58 16 65535 b with
      | none => rfl
      | some y => rfl
  | none =>
    simp only
    cases rgr 58 16 65535 l <;> rfl
theorem ra6_eq' (l : List UInt8) : ra6 l = if is6 l = true ∧ (L6 l).length = 8 ∧ addrT 6 ((L6 l).foldl putN (0, 0)).1 ((L6 l).foldl putN (0, 0)).2 = l then some (6, (L6 l).foldl putN (0, 0)) else none := by
  unfold ra6
  rw [r6_eq]
  by_cases h : is6 l = true
  · rw [if_pos h]
    simp only [h, true_and]
  · rw [if_neg h, if_neg (fun q => h q.1)]
theorem fold8 {a b c d e f g h : Nat} (ha : a < 65536) (hb : b < 65536) (hc : c < 65536) (hd : d < 65536) (he : e < 65536) (hf : f < 65536) (hg : g < 65536) (hh : h < 65536) :
    [a, b, c, d, e, f, g, h].foldl putN (0, 0) = (((a * 65536 + b) * 65536 + c) * 65536 + d, ((e * 65536 + f) * 65536 + g) * 65536 + h) := by
  have key : ∀ {a b c d : Nat}, a < 65536 → b < 65536 → c < 65536 → d < 65536 → grpN (((a * 65536 + b) * 65536 + c) * 65536 + d) 0 = a ∧ grpN (((a * 65536 + b) * 65536 + c) * 65536 + d) 1 = b ∧ grpN (((a * 65536 + b) * 65536 + c) * 65536 + d) 2 = c ∧ grpN (((a * 65536 + b) * 65536 + c) * 65536 + d) 3 = d := by
    intro a b c d ha hb hc hd
    unfold grpN
    simp only [Nat.reduceMul, Nat.reduceSub, Nat.reducePow]
    omega
  have e1 := key ha hb hc hd
  have e2 := key he hf hg hh
  have := putN_G8 (h := ((a * 65536 + b) * 65536 + c) * 65536 + d) (l := ((e * 65536 + f) * 65536 + g) * 65536 + h) (by omega) (by omega)
  unfold G8 at this
  rwa [e1.1, e1.2.1, e1.2.2.1, e1.2.2.2, e2.1, e2.2.1, e2.2.2.1, e2.2.2.2] at this
def cc (l : List UInt8) (k : Nat) : Bool := l.getD k 0 == 58 && l.getD (k + 1) 0 == 58
theorem cc_iff {l : List UInt8} {k : Nat} : cc l k = true ↔ l.getD k 0 = 58 ∧ l.getD (k + 1) 0 = 58 := by simp [cc]
/-- Where the two colons stand, behind so many rounds. -/
def atS (l : List UInt8) : Nat → Int
  | 0 => -1
  | k + 1 => if atS l k < 0 then (if cc l k = true then (k : Int) else -1) else atS l k
theorem atS_ok (l : List UInt8) : ∀ k, (atS l k = -1 ∧ ∀ j, j < k → cc l j = false) ∨ (∃ j : Nat, j < k ∧ atS l k = j ∧ cc l j = true ∧ ∀ i, i < j → cc l i = false)
  | 0 => .inl ⟨rfl, fun j h => by omega⟩
  | k + 1 => by
    rcases atS_ok l k with ⟨h1, h2⟩ | ⟨j, h1, h2, h3, h4⟩
    · by_cases hc : cc l k = true
      · refine .inr ⟨k, by omega, ?_, hc, h2⟩
        unfold atS; rw [h1, if_pos (by omega), if_pos hc]
      · refine .inl ⟨?_, fun j hj => ?_⟩
        · unfold atS; rw [h1, if_pos (by omega), if_neg hc]
        · by_cases e : j = k
          · rw [e]; simpa using hc
          · exact h2 j (by omega)
    · refine .inr ⟨j, by omega, ?_, h3, h4⟩
      unfold atS; rw [h2, if_neg (by omega)]
def atV (l : List UInt8) : Int := match cut2 l with
  | some (a, _) => a.length
  | none => -1
theorem atV_end {l : List UInt8} {k : Nat} (hk : l.length ≤ k + 1) (hk' : k ≤ l.length) (h0 : k + 1 ≤ l.length ∨ l.length = 0) (hn : atS l k = -1 ∨ True) : atS l k = atV l := by
  rcases atS_ok l k with ⟨h1, h2⟩ | ⟨j, h1, h2, h3, h4⟩
  · have : cut2 l = none := cut2_no (fun i hi => by
      have := h2 i (by omega)
      intro q
      rw [cc_iff.2 q] at this
      cases this)
    unfold atV
    rw [this, h1]
  · have hc := cc_iff.1 h3
    have : cut2 l = some (l.take j, l.drop (j + 2)) := cut2_at (by omega) hc.1 hc.2 (fun i hi q => by
      have := h4 i hi
      rw [cc_iff.2 q] at this
      cases this)
    unfold atV
    rw [this, h2]
    simp
    omega
theorem atV_found {l : List UInt8} {k : Nat} (hk : k + 1 ≤ l.length) (h : ¬ atS l k < 0) : atS l k = atV l := by
  rcases atS_ok l k with ⟨h1, h2⟩ | ⟨j, h1, h2, h3, h4⟩
  · omega
  · have hc := cc_iff.1 h3
    have : cut2 l = some (l.take j, l.drop (j + 2)) := cut2_at (by omega) hc.1 hc.2 (fun i hi q => by
      have := h4 i hi
      rw [cc_iff.2 q] at this
      cases this)
    unfold atV
    rw [this, h2]
    simp
    omega
theorem atS_rng (l : List UInt8) (k : Nat) : -1 ≤ atS l k ∧ atS l k < k ∨ atS l k = -1 := by
  rcases atS_ok l k with ⟨h1, h2⟩ | ⟨j, h1, h2, h3, h4⟩ <;> omega
theorem cut2_parts {l a b : List UInt8} (h : cut2 l = some (a, b)) : a = l.take a.length ∧ b = l.drop (a.length + 2) ∧ a.length + 2 ≤ l.length := by
  have e := cut2_some h
  refine ⟨?_, ?_, ?_⟩
  · conv => rhs; rw [e]
    simp
  · conv => rhs; rw [e]
    rw [List.drop_append]
    simp
  · rw [e]; simp
theorem rgr_len {c : UInt8} {b lim : Nat} {l : List UInt8} {L : List Nat} (h : rgr c b lim l = some L) : L.length ≤ l.length + 1 := by
  unfold rgr at h
  split at h
  · cases h; simp
  · rw [rgs_all] at h
    split at h
    · cases h
      have := spl_len c l
      simp; omega
    · cases h
def n4 (a b c d : Nat) : Nat := ((a * 65536 + b) * 65536 + c) * 65536 + d
theorem n4_lt {a b c d : Nat} (ha : a < 65536) (hb : b < 65536) (hc : c < 65536) (hd : d < 65536) : n4 a b c d < 18446744073709551616 := by unfold n4; omega
theorem n4_cast (a b c d : Nat) : ((n4 a b c d : Nat) : Int) = (((a : Int) * 65536 + b) * 65536 + c) * 65536 + d := by
  unfold n4
  rw [Int.natCast_add, Int.natCast_mul, Int.natCast_add, Int.natCast_mul, Int.natCast_add, Int.natCast_mul]
  rfl
theorem n4_wrap {a b c d : Nat} (ha : a < 65536) (hb : b < 65536) (hc : c < 65536) (hd : d < 65536) :
    IntKind.u64.wrap (IntKind.u64.wrap (IntKind.u64.wrap (IntKind.u64.wrap (IntKind.u64.wrap (IntKind.u64.wrap ((a : Int) * 65536) + b) * 65536) + c) * 65536) + d) = ((n4 a b c d : Nat) : Int) := by
  rw [n4_cast]
  simp only [wrap_u64]
  omega
theorem fold8' {a b c d e f g h : Nat} (ha : a < 65536) (hb : b < 65536) (hc : c < 65536) (hd : d < 65536) (he : e < 65536) (hf : f < 65536) (hg : g < 65536) (hh : h < 65536) :
    [a, b, c, d, e, f, g, h].foldl putN (0, 0) = (n4 a b c d, n4 e f g h) := fold8 ha hb hc hd he hf hg hh
end Go.Proofs.YtbnjijffkjcmcaaGreatDoor.AL
namespace Go.Proofs.YtbnjijffkjcmcaaGreatDoor.AL
open Go
attribute [local simp] qf cv qbin ibin sbin qun retPost rvOk ctV ctPost marksOk retV resAll resOf V.lt ltL V.ren renL V.exp V.exp1 cleanL V.clean closedL V.closed V.cells V.one V.tree
  loadV cellsAt isNC nilQ isSlD isIfD slNew ownRows ownCells V.isOwn slStore srcO qlook mlook mget mstr zval qnone qmake mput lmap isAggD placesOf fillV putCells lstore bound seqParts V.sh shL Blk.sh newV V.ok peqs peq srcRows qbytes byteSl appOk mmV mmR hidE V.fz fzL Blk.fz fzOk and_assoc
attribute [-simp] Int.not_le Int.not_lt Nat.not_le Nat.not_lt
/-! The reference's groups. -/
noncomputable def SGps : List V → Option Res
  | [.str s, .int .u8 c, .int .u64 b, .int .u64 lim] => ifC ((b = 10 ∨ b = 16) ∧ (0 ≤ lim ∧ lim < 18446744073709551616) ∧ s.size < 100000 ∧ 0 ≤ c ∧ c < 256)
      (some ⟨.tup [.own 0, .bool (rgr (UInt8.ofNat c.toNat) b.toNat lim.toNat s.data.toList).isSome], [.sl 1 22 (uRows (rgL (UInt8.ofNat c.toNat) b.toNat lim.toNat s.data.toList))]⟩)
  | _ => none
theorem gps_at {l : List UInt8} (c : UInt8) {b lim : Nat} (hb : b = 10 ∨ b = 16) (hlim : lim < 18446744073709551616) (hl : l.length < 100000) :
    SGps [.str (bs l), .int .u8 (c.toNat : Int), .int .u64 (b : Int), .int .u64 (lim : Int)] = some ⟨.tup [.own 0, .bool (rgr c b lim l).isSome], [.sl 1 22 (uRows (rgL c b lim l))]⟩ := by
  have := c.toNat_lt
  simp only [SGps, bs_size, bs_data]
  rw [ifC_pos ⟨by omega, ⟨by omega, by omega⟩, hl, by omega, by omega⟩]
  rw [Int.toNat_natCast, Int.toNat_natCast, Int.toNat_natCast, show UInt8.ofNat c.toNat = c from by simp]
/-- The groups so far. -/
def gsf (b lim : Nat) (ps : List (List UInt8)) (k : Nat) : List Nat := (ps.take k).map fun p => (rnum b lim p).1
theorem gsf_snoc {b lim : Nat} {ps : List (List UInt8)} {k : Nat} (h : k < ps.length) : gsf b lim ps (k + 1) = gsf b lim ps k ++ [(rnum b lim ps[k]).1] := by
  unfold gsf; rw [List.take_succ_eq_append_getElem h, List.map_append]; rfl
theorem uRows_app1 (L : List Nat) (x : Nat) : uRows L ++ [[.int .u64 (x : Int)]] = uRows (L ++ [x]) := by unfold uRows; rw [List.map_append]; rfl
def M_f48 : Md := fun i => some #[]
@[simp] theorem M_f48_eq {i : Nat} : M_f48 i = (some #[]) := rfl
theorem runs_ref01_groups : ∀ args r, SGps args = some r → Runs Tryz.prog 48 args r := by
  intro args r hh
  unfold SGps ifC at hh
  split at hh
  · rename_i s0 c0 b0 lim0
    obtain ⟨l, rfl⟩ := bs_ex s0
    rw [bs_size, bs_data] at hh
    split at hh
    · rename_i hin
      obtain ⟨hb0, hlim, hlen, hc0, hc1⟩ := hin
      obtain ⟨b, rfl⟩ : ∃ k : Nat, b0 = k := ⟨b0.toNat, by omega⟩
      obtain ⟨lim, rfl⟩ : ∃ k : Nat, lim0 = k := ⟨lim0.toNat, by omega⟩
      obtain ⟨c, rfl⟩ : ∃ c : UInt8, c0 = (c.toNat : Int) := ⟨UInt8.ofNat c0.toNat, by simp; omega⟩
      simp only [Int.toNat_natCast, show UInt8.ofNat c.toNat = c from by simp] at hh
      have hb : b = 10 ∨ b = 16 := by omega
      have hT : ((T0.add 22 SPrt).add 46 SNm).ok Tryz.prog := Tab.add_ok (Tab.add_ok (T0_ok _) runs_ref01_Parts) runs_ref01_Number
      refine Runs.of_body Tryz.func48 (by decide) rfl (by simp [Tryz.f48]) ?_
      refine W.seqE hT mixed M_f48 (by kernel_rfl) ?_
      simp [Tryz.f48]
      have he : (bs l).toList = l := bs_toList l
      by_cases hl0 : l = []
      · subst hl0
        have e1 : rgr c b lim [] = some [] := rfl
        have e2 : rgL c b lim [] = [] := rfl
        rw [e1, e2] at hh
        cases hh
        refine W.cut False [] [] 43 ?_ (fun h => h.elim)
        have e3 : bs [] = (⟨#[]⟩ : ByteArray) := rfl
        rw [e3]
        refine W.seqE hT mixed M_f48 (by kernel_rfl) ?_
        simp [Tryz.f48]
        refine W.cond true (by simp) (fun _ => ?_) (by simp)
        refine W.seqE hT mixed M_f48 (by kernel_rfl) ?_
        simp
        refine W.wk (Wk.adopt 8 1 22 (by omega) (by simp)) ?_
        refine W.of_WE hT mixed M_f48 _ (by kernel_rfl) ?_
        simp [Tryz.f48, uRows]
      · have e1 : rgr c b lim l = rgs b lim (spl c l) := by unfold rgr; rw [if_neg hl0]
        have hne : ¬ bs l = (⟨#[]⟩ : ByteArray) := fun q => hl0 (bs_inj.1 (q.trans (show (⟨#[]⟩ : ByteArray) = bs [] from rfl)))
        have hp := prt_at c hlen
        refine W.cut True [(0, .str (bs l)), (1, .int .u8 c.toNat), (2, .int .u64 b), (3, .int .u64 lim)] [] 43 ?_ ?_
        · refine W.of_WE hT mixed M_f48 _ (by kernel_rfl) ?_
          simp [Tryz.f48, hne, he, hl0]
        intro _
        refine W.cut True [(2, .int .u64 b), (3, .int .u64 lim), (10, .own 0)] [.sl 1 9 (bRows (spl c l))] 43 ?_ ?_
        · refine W.of_WE hT mixed M_f48 _ (by kernel_rfl) ?_
          simp [Tryz.f48, hp]
        intro _
        refine W.wk (Wk.freeze 0 (.sl 1 9 (bRows (spl c l))) (by simp) (by simp)) ?_
        refine W.seqE hT mixed M_f48 (by kernel_rfl) ?_
        simp [Tryz.f48]
        refine W.wk (Wk.adopt 11 1 22 (by omega) (by simp)) ?_
        have hpl := spl_len c l
        have hpn := spl_ne c l
        have hpp := spl_part c l
        have hall := rgs_all (b := b) (lim := lim) (spl c l)
        rw [← e1] at hall
        have hrL : (spl c l).all (fun p => (rnum b lim p).2) = true → rgL c b lim l = gsf b lim (spl c l) (spl c l).length := fun q => by
          unfold rgL gsf; rw [hall, if_pos q, List.take_length]; rfl
        have hrN : (spl c l).all (fun p => (rnum b lim p).2) = false → rgr c b lim l = none ∧ rgL c b lim l = [] := fun q => by
          unfold rgL; rw [hall, if_neg (by rw [q]; simp)]; exact ⟨rfl, rfl⟩
        clear hp e1
        generalize hps : spl c l = ps at *
        generalize rgL c b lim l = RL at *
        generalize rgr c b lim l = RO at *
        have hbl : (bRows ps).length = ps.length := bRows_len ps
        have hbg : ∀ k, (h : k < ps.length) → (bRows ps)[k]? = some [.str (bs ps[k])] := fun k h => by unfold bRows; rw [List.getElem?_map, List.getElem?_eq_getElem h]; rfl
        generalize bRows ps = RW at *
        refine W.cut (ps.all (fun p => (rnum b lim p).2) = true) [(11, .own 0)] [.sl 1 22 (uRows (gsf b lim ps ps.length))] 43 ?_ ?_
        · refine W.seqE hT mixed M_f48 (by kernel_rfl) ?_
          simp [Tryz.f48]
          refine W.block (W.for (fun k => ∀ j, (h : j < ps.length) → j < k → (rnum b lim ps[j]).2 = true) (fun k => [(2, .int .u64 b), (3, .int .u64 lim), (10, .rd 1 RW), (11, .own 0), (12, .int .i64 k)]) (fun k => [.sl 1 22 (uRows (gsf b lim ps k))]) 43 ps.length (fun j h h2 => by omega) ?_ ?_)
          · simp [gsf, uRows]
          · intro k hk hJ
            by_cases hlt : k < ps.length
            · have g1 := nm_at (l := ps[k]) hb (lim := lim) (by omega) (by have := hpp ps[k] (List.getElem_mem hlt); omega)
              have g2 := hbg k hlt
              obtain ⟨g2a, g2b⟩ := List.getElem?_eq_some_iff.1 g2
              have w1 : IntKind.i64.wrap ((k : Int) + 1) = (k : Int) + 1 := by rw [wr_i64 (by omega) (by omega)]
              have g3 := gsf_snoc (b := b) (lim := lim) hlt
              have g4 := uRows_app1 (gsf b lim ps k) (rnum b lim ps[k]).1
              rw [← g3] at g4
              have g5 : (uRows (gsf b lim ps k)).length = k := by rw [uRows_len]; unfold gsf; simp; omega
              by_cases hv : (rnum b lim ps[k]).2 = true
              · have hJ' : ∀ j, (h : j < ps.length) → j < k + 1 → (rnum b lim ps[j]).2 = true := fun j h h2 => by
                  by_cases hjk : j = k
                  · subst hjk; exact hv
                  · exact hJ j h (by omega)
                rw [hv] at g1
                generalize (rnum b lim ps[k]).1 = x at *
                generalize ps[k] = p at *
                generalize uRows (gsf b lim ps k) = R1 at *
                generalize uRows (gsf b lim ps (k + 1)) = R2 at *
                refine W.of_WE hT mixed M_f48 _ (by kernel_rfl) ?_
                simp [hlt, hbl, g1, g2b, w1, g4, g5]
                exact ⟨by omega, by omega, hJ'⟩
              · have hf : (rnum b lim ps[k]).2 = false := by simpa using hv
                have hnot : ps.all (fun p => (rnum b lim p).2) = false := by
                  rw [List.all_eq_false]; exact ⟨ps[k], List.getElem_mem hlt, by rw [hf]; simp⟩
                obtain ⟨n1, n2⟩ := hrN hnot
                rw [n1, n2] at hh
                cases hh
                rw [hf] at g1
                refine W.cut True [(2, .int .u64 b), (3, .int .u64 lim), (10, .rd 1 RW), (12, .int .i64 k)] [] 43 ?_ ?_
                · refine W.of_WE hT mixed M_f48 _ (by kernel_rfl) ?_
                  simp [Tryz.f48, hlt, hbl]
                intro _
                refine W.cut False [] [] 43 ?_ (fun h => h.elim)
                refine W.block ?_
                refine W.seqE hT mixed M_f48 (by kernel_rfl) ?_
                simp [Tryz.f48, hlt, hbl, g1, g2b]
                refine W.cut False [] [] 43 ?_ (fun h => h.elim)
                refine W.seqE hT mixed M_f48 (by kernel_rfl) ?_
                simp [Tryz.f48]
                refine W.cond true (by simp) (fun _ => ?_) (by simp)
                refine W.seqE hT mixed M_f48 (by kernel_rfl) ?_
                simp
                refine W.wk (Wk.adopt 8 1 22 (by omega) (by simp)) ?_
                refine W.of_WE hT mixed M_f48 _ (by kernel_rfl) ?_
                simp [Tryz.f48, uRows]
            · obtain rfl : k = ps.length := by omega
              refine W.of_WE hT mixed M_f48 _ (by kernel_rfl) ?_
              simp [hbl]
              intro p hp
              obtain ⟨j, hj, rfl⟩ := List.getElem_of_mem hp
              exact hJ j hj hj
        intro hA
        have hR := hrL hA
        rw [if_pos hA] at hall
        rw [hR, hall] at hh
        cases hh
        refine W.of_WE hT mixed M_f48 _ (by kernel_rfl) ?_
        simp [Tryz.f48]
    · cases hh
  · cases hh

end Go.Proofs.YtbnjijffkjcmcaaGreatDoor.AL
namespace Go.Proofs.YtbnjijffkjcmcaaGreatDoor.AL
open Go
attribute [local simp] qf cv qbin ibin sbin qun retPost rvOk ctV ctPost marksOk retV resAll resOf V.lt ltL V.ren renL V.exp V.exp1 cleanL V.clean closedL V.closed V.cells V.one V.tree
  loadV cellsAt isNC nilQ isSlD isIfD slNew ownRows ownCells V.isOwn slStore srcO qlook mlook mget mstr zval qnone qmake mput lmap isAggD placesOf fillV putCells lstore bound seqParts V.sh shL Blk.sh newV V.ok peqs peq srcRows qbytes byteSl appOk mmV mmR hidE V.fz fzL Blk.fz fzOk and_assoc
attribute [-simp] Int.not_le Int.not_lt Nat.not_le Nat.not_lt
/-! The reference's reading of an address. -/
theorem gps46 {l : List UInt8} (h : l.length < 100000) : SGps [.str (bs l), .int .u8 46, .int .u64 10, .int .u64 255] = some ⟨.tup [.own 0, .bool (rgr 46 10 255 l).isSome], [.sl 1 22 (uRows (rgL 46 10 255 l))]⟩ := gps_at 46 (b := 10) (lim := 255) (.inl rfl) (by omega) h
theorem gps58 {l : List UInt8} (h : l.length < 100000) : SGps [.str (bs l), .int .u8 58, .int .u64 16, .int .u64 65535] = some ⟨.tup [.own 0, .bool (rgr 58 16 65535 l).isSome], [.sl 1 22 (uRows (rgL 58 16 65535 l))]⟩ := gps_at 58 (b := 16) (lim := 65535) (.inr rfl) (by omega) h
theorem rgL_le {c : UInt8} {b lim : Nat} (hb : 2 ≤ b) (hb' : b ≤ 16) (hlim : lim < b ^ 10) (hl64 : lim < 18446744073709551616) (l : List UInt8) : ∀ x ∈ rgL c b lim l, x ≤ lim := by
  unfold rgL
  cases h : rgr c b lim l with
  | none => simp
  | some L => exact (rgr_some hb hb' hlim hl64 h).2
def M_f23 : Md := fun i => if i = 5 then some #[0, 1, 3, 7, 0, 16, 48, 127, 255, 0, 512, 1536, 4095, 8191, 0, 16384, 49152, 131071, 262143, 0, 1048575, 2097151] else if i = 24 then some #[0, 1, 3, 7, 0, 16, 48, 127, 255, 0, 512, 1536, 4095, 8191, 0, 16384, 49152, 131071, 0, 262144, 786432, 1835008, 0, 4194304, 12582912, 33292288, 66846720, 0, 134217728, 402653184, 1073479680, 2147221504, 0, 4294967296, 12884901888, 34359476224, 68719476735, 0, 274877906943] else if i = 28 then some #[0, 0, 3, 7] else some #[]
@[simp] theorem M_f23_eq {i : Nat} : M_f23 i = (if i = 5 then some #[0, 1, 3, 7, 0, 16, 48, 127, 255, 0, 512, 1536, 4095, 8191, 0, 16384, 49152, 131071, 262143, 0, 1048575, 2097151] else if i = 24 then some #[0, 1, 3, 7, 0, 16, 48, 127, 255, 0, 512, 1536, 4095, 8191, 0, 16384, 49152, 131071, 0, 262144, 786432, 1835008, 0, 4194304, 12582912, 33292288, 66846720, 0, 134217728, 402653184, 1073479680, 2147221504, 0, 4294967296, 12884901888, 34359476224, 68719476735, 0, 274877906943] else if i = 28 then some #[0, 0, 3, 7] else some #[]) := rfl
theorem runs_ref01_AddrParse : ∀ args r, SAP args = some r → Runs Tryz.prog 23 args r := by
  intro args r hh
  unfold SAP ifC at hh
  split at hh
  · rename_i s0
    obtain ⟨l, rfl⟩ := bs_ex s0
    rw [bs_size, bs_data] at hh
    split at hh
    · rename_i hlen
      cases hh
      rw [← ra_eq]
      have hsz := bs_size l
      have hT : ((T0.add 48 SGps).add 15 SAddrT).ok Tryz.prog := Tab.add_ok (Tab.add_ok (T0_ok _) runs_ref01_groups) runs_ref01_AddrText
      refine Runs.of_body Tryz.func23 (by decide) rfl (by simp [Tryz.f23]) ?_
      refine W.seqE hT mixed M_f23 (by kernel_rfl) ?_
      simp [Tryz.f23]
      by_cases hlong : 100 < l.length
      · have hr : ra l = none := by unfold ra; rw [if_pos hlong]
        rw [hr]
        refine W.cut False [] [] 173 ?_ (fun h => h.elim)
        refine W.of_WE hT mixed M_f23 _ (by kernel_rfl) ?_
        simp [Tryz.f23, hsz, show (100 : Int) < l.length by omega, paV]
      have hra : ra l = match four (rgr 46 10 255 l) with | some n => some (4, 0, n) | none => ra6 l := by
        unfold ra
        rw [if_neg hlong]
        cases four (rgr 46 10 255 l) <;> rfl
      refine W.cut True [(0, .str (bs l)), (3, .ptr 0 0)] [.box 24 [.int .u64 0, .int .u64 0]] 173 ?_ ?_
      · refine W.of_WE hT mixed M_f23 _ (by kernel_rfl) ?_
        simp [Tryz.f23, hsz, show ¬ (100 : Int) < l.length by omega]
      intro _
      have g46 := gps46 hlen
      refine W.cut (four (rgr 46 10 255 l) = none) [(0, .str (bs l)), (3, .ptr 0 0)] [.box 24 [.int .u64 0, .int .u64 0]] 173 ?_ ?_
      · have hle := rgL_le (c := 46) (b := 10) (lim := 255) (by omega) (by omega) (by omega) (by omega) l
        have hun : rgL 46 10 255 l = (rgr 46 10 255 l).getD [] := rfl
        generalize rgL 46 10 255 l = L at *
        generalize rgr 46 10 255 l = O at *
        refine W.seqE hT mixed M_f23 (by kernel_rfl) ?_
        simp [Tryz.f23, g46]
        cases O with
        | none =>
          refine W.of_WE hT mixed M_f23 _ (by kernel_rfl) ?_
          simp [Tryz.f23, four]
        | some L2 =>
          obtain rfl : L = L2 := hun
          have hln := uRows_len L
          by_cases h4 : L.length = 4
          · obtain ⟨a, b, c, d, rfl⟩ : ∃ a b c d, L = [a, b, c, d] := by
              match L, h4 with
              | [a, b, c, d], _ => exact ⟨a, b, c, d, rfl⟩
            have ha := hle a (by simp)
            have hb := hle b (by simp)
            have hc := hle c (by simp)
            have hd := hle d (by simp)
            have e1 : ra l = some (4, 0, ((a * 256 + b) * 256 + c) * 256 + d) := by rw [hra]; rfl
            rw [e1]
            refine W.of_WE hT mixed M_f23 _ (by kernel_rfl) ?_
            have w1 : IntKind.u64.wrap ((a : Int) * 256) = (a : Int) * 256 := wr_u64 (by omega) (by omega)
            have w2 : IntKind.u64.wrap ((a : Int) * 256 + b) = (a : Int) * 256 + b := wr_u64 (by omega) (by omega)
            have w3 : IntKind.u64.wrap (((a : Int) * 256 + b) * 256) = ((a : Int) * 256 + b) * 256 := wr_u64 (by omega) (by omega)
            have w4 : IntKind.u64.wrap (((a : Int) * 256 + b) * 256 + c) = ((a : Int) * 256 + b) * 256 + c := wr_u64 (by omega) (by omega)
            have w5 : IntKind.u64.wrap ((((a : Int) * 256 + b) * 256 + c) * 256) = (((a : Int) * 256 + b) * 256 + c) * 256 := wr_u64 (by omega) (by omega)
            have w6 : IntKind.u64.wrap ((((a : Int) * 256 + b) * 256 + c) * 256 + d) = (((a : Int) * 256 + b) * 256 + c) * 256 + d := wr_u64 (by omega) (by omega)
            simp [Tryz.f23, uRows, w1, w2, w3, w4, w5, w6, paV]
          · have h4' : ¬ (L.length : Int) = 4 := by omega
            have hf : four (some L) = none := by
              unfold four
              split
              · rename_i e; simp only [Option.some.injEq] at e; rw [e] at h4; simp at h4
              · rfl
            refine W.of_WE hT mixed M_f23 _ (by kernel_rfl) ?_
            simp [Tryz.f23, hln, h4', hf, h4]
      intro hfour
      have hra6 : ra l = ra6 l := by rw [hra, hfour]
      rw [hra6, ra6_eq']
      refine W.seqE hT mixed M_f23 (by kernel_rfl) ?_
      simp [Tryz.f23]
      refine W.cut True [(0, .str (bs l)), (3, .ptr 0 0), (7, .int .i64 (atV l))] [.box 24 [.int .u64 0, .int .u64 0]] 173 ?_ ?_
      · refine W.seqE hT mixed M_f23 (by kernel_rfl) ?_
        simp [Tryz.f23]
        refine W.block (W.for (fun k => k = 0 ∨ k + 1 ≤ l.length) (fun k => [(0, .str (bs l)), (3, .ptr 0 0), (7, .int .i64 (atS l k)), (8, .int .i64 k)]) (fun k => [.box 24 [.int .u64 0, .int .u64 0]]) 173 l.length (.inl rfl) ?_ ?_)
        · simp [atS]
        · intro k hk hJ
          refine W.of_WE hT mixed M_f23 _ (by kernel_rfl) ?_
          have w1 : IntKind.i64.wrap ((k : Int) + 1) = (k : Int) + 1 := by rw [wr_i64 (by omega) (by omega)]
          by_cases hlt : k + 1 < l.length
          · have hlt' : (k : Int) + 1 < l.length := by omega
            by_cases hat : atS l k < 0
            · have hs1 : sat (bs l) (k : Int) = ((l.getD k 0).toNat : Int) := by rw [bs_sat, Int.toNat_natCast]
              have hs2 : sat (bs l) ((k : Int) + 1) = ((l.getD (k + 1) 0).toNat : Int) := by rw [bs_sat, show ((k : Int) + 1).toNat = k + 1 by omega]
              have hst : atS l (k + 1) = if cc l k = true then (k : Int) else -1 := by
                rw [show atS l (k + 1) = if atS l k < 0 then (if cc l k = true then (k : Int) else -1) else atS l k from rfl, if_pos hat]
              have hm1 : atS l k = -1 := by rcases atS_rng l k with q | q <;> omega
              have u58 : ∀ x : UInt8, ((x.toNat : Int) = 58 ↔ x = 58) := fun x => ⟨fun h => UInt8.toNat_inj.1 (by show x.toNat = 58; omega), fun h => by rw [h]; rfl⟩
              have hcc := @cc_iff l k
              generalize l.getD k 0 = x at *
              generalize l.getD (k + 1) 0 = y at *
              by_cases hx : x = 58
              · by_cases hy : y = 58
                · rw [if_pos (hcc.2 ⟨hx, hy⟩)] at hst
                  simp [Tryz.f23, hsz, w1, hlt', hat, hs1, hs2, hx, hy, hst, u58]
                  omega
                · rw [if_neg (fun q => hy (hcc.1 q).2)] at hst
                  have hy' : ¬ (y.toNat : Int) = 58 := fun q => hy ((u58 y).1 q)
                  simp [Tryz.f23, hsz, w1, hlt', hat, hs1, hs2, hx, hy', hst, hm1]
                  omega
              · rw [if_neg (fun q => hx (hcc.1 q).1)] at hst
                have hx' : ¬ (x.toNat : Int) = 58 := fun q => hx ((u58 x).1 q)
                simp [Tryz.f23, hsz, w1, hlt', hat, hs1, hx', hst, hm1]
                omega
            · have he := atV_found (by omega) hat
              have hat' : ¬ atV l < 0 := by rw [← he]; exact hat
              rw [he]
              simp [Tryz.f23, hsz, w1, hlt', hat']
          · have hlt' : ¬ (k : Int) + 1 < l.length := by omega
            have he : atS l k = atV l := atV_end (by omega) hk (by omega) (.inr trivial)
            rw [he]
            simp [Tryz.f23, hsz, w1, hlt']
      intro _
      have g58 := gps58 hlen
      refine W.seqE hT mixed M_f23 (by kernel_rfl) ?_
      simp [Tryz.f23, g58]
      refine W.cut True [(0, .str (bs l)), (3, .ptr 0 0), (9, .own 1), (10, .bool (is6 l))] [.box 24 [.int .u64 0, .int .u64 0], .sl 1 22 (uRows (L6 l))] 173 ?_ ?_
      · cases hcut : cut2 l with
        | none =>
          have hat : atV l = -1 := by unfold atV; rw [hcut]
          have hi : is6 l = (rgr 58 16 65535 l).isSome := by unfold is6; rw [hcut]
          have hL : L6 l = rgL 58 16 65535 l := by unfold L6; rw [hcut]
          rw [hi, hL, hat]
          refine W.of_WE hT mixed M_f23 _ (by kernel_rfl) ?_
          simp [Tryz.f23]
        | some p =>
          obtain ⟨a, b⟩ := p
          obtain ⟨ha, hb, hab⟩ := cut2_parts hcut
          have hat : atV l = (a.length : Int) := by unfold atV; rw [hcut]
          have hi : is6 l = ((rgr 58 16 65535 a).isSome && (rgr 58 16 65535 b).isSome) := by unfold is6; rw [hcut]
          have hL : L6 l = rgL 58 16 65535 a ++ List.replicate (8 - ((rgL 58 16 65535 a).length + (rgL 58 16 65535 b).length)) 0 ++ rgL 58 16 65535 b := by unfold L6; rw [hcut]
          have hbl : b.length ≤ l.length := by rw [hb]; simp
          have ga := gps58 (l := a) (by omega)
          have gb := gps58 (l := b) (by omega)
          have x1 : (bs l).extract 0 a.length = bs a := by rw [bs_extract, List.drop_zero, Nat.sub_zero, ← ha]
          have x2 : (bs l).extract (a.length + 2) l.length = bs b := by rw [bs_extract, List.take_of_length_le (by simp), ← hb]
          have w2 : IntKind.i64.wrap ((a.length : Int) + 2) = (a.length : Int) + 2 := by rw [wr_i64 (by omega) (by omega)]
          have n2 : ((a.length : Int) + 2).toNat = a.length + 2 := by omega
          have hxl : ∀ {m : List UInt8}, m.length ≤ l.length → (rgL 58 16 65535 m).length ≤ 100000 := fun {m} hm => by
            unfold rgL
            cases h : rgr 58 16 65535 m with
            | none => simp
            | some L =>
              have h1 := (rgr_len h)
              simp only [Option.getD_some]; omega
          have la := hxl (m := a) (by omega)
          have lb := hxl hbl
          rw [hi, hL, hat]
          clear hi hL g58 hat
          generalize rgL 58 16 65535 a = X at *
          generalize rgL 58 16 65535 b = Y at *
          generalize (rgr 58 16 65535 a).isSome = i1 at *
          generalize (rgr 58 16 65535 b).isSome = i2 at *
          generalize a.length = n at *
          refine W.seqE hT mixed M_f23 (by kernel_rfl) ?_
          simp [Tryz.f23]
          refine W.cond true (by simp) (fun _ => ?_) (by simp)
          refine W.seqE hT mixed M_f23 (by kernel_rfl) ?_
          simp [hsz, x1, ga]
          refine ⟨by omega, ?_⟩
          refine W.seqE hT mixed M_f23 (by kernel_rfl) ?_
          simp [hsz, w2, n2, x2, gb]
          refine ⟨by omega, by omega, ?_⟩
          refine W.cut True [(0, .str (bs l)), (3, .ptr 0 0), (9, .own 1), (10, .bool (i1 && i2)), (11, .own 1), (13, .own 2)] [.box 24 [.int .u64 0, .int .u64 0], .sl 1 22 (uRows X), .sl 1 22 (uRows Y)] 173 ?_ ?_
          · refine W.of_WE hT mixed M_f23 _ (by kernel_rfl) ?_
            cases i1 <;> simp [Tryz.f23]
          intro _
          refine W.cut True [(0, .str (bs l)), (3, .ptr 0 0), (9, .own 1), (10, .bool (i1 && i2)), (13, .own 2)] [.box 24 [.int .u64 0, .int .u64 0], .sl 1 22 (uRows (X ++ List.replicate (8 - (X.length + Y.length)) 0)), .sl 1 22 (uRows Y)] 173 ?_ ?_
          · have hX := uRows_len X
            have hY := uRows_len Y
            have w3 : IntKind.i64.wrap ((X.length : Int) + (Y.length : Int)) = (X.length : Int) + (Y.length : Int) := by rw [wr_i64 (by omega) (by omega)]
            refine W.seqE hT mixed M_f23 (by kernel_rfl) ?_
            simp [Tryz.f23, hX, hY, w3]
            refine W.block (W.for (fun _ => True) (fun k => [(0, .str (bs l)), (3, .ptr 0 0), (9, .own 1), (10, .bool (i1 && i2)), (13, .own 2), (15, .int .i64 ((X.length : Int) + (Y.length : Int) + (k : Int)))])
              (fun k => [.box 24 [.int .u64 0, .int .u64 0], .sl 1 22 (uRows (X ++ List.replicate k 0)), .sl 1 22 (uRows Y)]) 173 (8 - (X.length + Y.length)) trivial ?_ ?_)
            · simp
            · intro k hk _
              refine W.of_WE hT mixed M_f23 _ (by kernel_rfl) ?_
              by_cases hlt : k < 8 - (X.length + Y.length)
              · have w1 : IntKind.i64.wrap ((X.length : Int) + (Y.length : Int) + (k : Int) + 1) = (X.length : Int) + (Y.length : Int) + (k : Int) + 1 := by rw [wr_i64 (by omega) (by omega)]
                have h8 : (X.length : Int) + (Y.length : Int) + (k : Int) < 8 := by omega
                have ap := uRows_app1 (X ++ List.replicate k 0) 0
                rw [List.append_assoc, ← List.replicate_succ'] at ap
                have hr : (uRows (X ++ List.replicate k 0)).length = X.length + k := by rw [uRows_len]; simp
                simp only [Int.natCast_zero] at ap
                generalize uRows (X ++ List.replicate k 0) = R1 at *
                generalize uRows (X ++ List.replicate (k + 1) 0) = R2 at *
                simp [Tryz.f23, w1, h8, ap, hr]
                omega
              · have h8 : ¬ (X.length : Int) + (Y.length : Int) + (k : Int) < 8 := by omega
                obtain rfl : k = 8 - (X.length + Y.length) := by omega
                simp [Tryz.f23, h8]
          intro _
          have ap2 : uRows (X ++ List.replicate (8 - (X.length + Y.length)) 0) ++ uRows Y = uRows (X ++ List.replicate (8 - (X.length + Y.length)) 0 ++ Y) := by
            unfold uRows; rw [← List.map_append]
          have hr : (uRows (X ++ List.replicate (8 - (X.length + Y.length)) 0)).length ≤ 100008 := by rw [uRows_len]; simp; omega
          have hY := uRows_len Y
          generalize uRows (X ++ List.replicate (8 - (X.length + Y.length)) 0) = R1 at *
          rw [List.append_assoc] at ap2
          rw [← ap2]
          generalize uRows Y = R2 at *
          refine W.of_WE hT mixed M_f23 _ (by kernel_rfl) ?_
          simp [Tryz.f23, hY]
          omega
      intro _
      have hle : ∀ x ∈ L6 l, x < 65536 := by
        have h1 : ∀ m : List UInt8, ∀ x ∈ rgL 58 16 65535 m, x ≤ 65535 := fun m => rgL_le (by omega) (by omega) (by omega) (by omega) m
        intro x hx
        unfold L6 at hx
        split at hx
        · rename_i a b _
          rw [List.mem_append, List.mem_append, List.mem_replicate] at hx
          rcases hx with (hx | hx) | hx
          · have := h1 a x hx; omega
          · omega
          · have := h1 b x hx; omega
        · have := h1 l x hx; omega
      have hln := uRows_len (L6 l)
      generalize is6 l = i6 at *
      generalize L6 l = L at *
      by_cases hbad : i6 = true ∧ L.length = 8
      · obtain ⟨rfl, h8⟩ := hbad
        obtain ⟨x0, x1, x2, x3, x4, x5, x6, x7, rfl⟩ : ∃ x0 x1 x2 x3 x4 x5 x6 x7, L = [x0, x1, x2, x3, x4, x5, x6, x7] := by
          match L, h8 with
          | [x0, x1, x2, x3, x4, x5, x6, x7], _ => exact ⟨x0, x1, x2, x3, x4, x5, x6, x7, rfl⟩
        have h0 := hle x0 (by simp)
        have h1 := hle x1 (by simp)
        have h2 := hle x2 (by simp)
        have h3 := hle x3 (by simp)
        have h4 := hle x4 (by simp)
        have h5 := hle x5 (by simp)
        have h6 := hle x6 (by simp)
        have h7 := hle x7 (by simp)
        rw [fold8' h0 h1 h2 h3 h4 h5 h6 h7]
        have v1 := n4_wrap h0 h1 h2 h3
        have v2 := n4_wrap h4 h5 h6 h7
        have hn1 := n4_lt h0 h1 h2 h3
        have hn2 := n4_lt h4 h5 h6 h7
        have hu : uRows [x0, x1, x2, x3, x4, x5, x6, x7] = [[.int .u64 (x0 : Int)], [.int .u64 (x1 : Int)], [.int .u64 (x2 : Int)], [.int .u64 (x3 : Int)], [.int .u64 (x4 : Int)], [.int .u64 (x5 : Int)], [.int .u64 (x6 : Int)], [.int .u64 (x7 : Int)]] := rfl
        generalize n4 x0 x1 x2 x3 = n1 at *
        generalize n4 x4 x5 x6 x7 = n2 at *
        clear hle h0 h1 h2 h3 h4 h5 h6 h7 hra hra6
        refine W.cut True [(0, .str (bs l)), (3, .ptr 0 0), (9, .own 1)] [.box 24 [.int .u64 0, .int .u64 0], .sl 1 22 (uRows [x0, x1, x2, x3, x4, x5, x6, x7])] 173 ?_ ?_
        · refine W.of_WE hT mixed M_f23 _ (by kernel_rfl) ?_
          simp [Tryz.f23, hln]
        intro _
        refine W.cut True [(0, .str (bs l)), (3, .ptr 0 0), (16, .ptr 1 0)] [.box 24 [.int .u64 0, .int .u64 0], .box 24 [.int .u64 (n1 : Int), .int .u64 (n2 : Int)]] 173 ?_ ?_
        · rw [hu]
          refine W.of_WE hT mixed M_f23 _ (by kernel_rfl) ?_
          simp [Tryz.f23, v1, v2]
        intro _
        have hat := addrT_at (f := 6) hn1 hn2
        rw [if_pos (by unfold cAddr; simp)] at hat
        rw [show (6 : Int).toNat = 6 from rfl] at hat
        refine W.seqE hT mixed M_f23 (by kernel_rfl) ?_
        simp [Tryz.f23, hat]
        refine W.of_WE hT mixed M_f23 _ (by kernel_rfl) ?_
        by_cases hx : addrT 6 n1 n2 = l
        · simp [Tryz.f23, bs_toList, hx, paV]
        · simp [Tryz.f23, bs_toList, hx, paV]
      · have hr : (if i6 = true ∧ L.length = 8 ∧ addrT 6 (L.foldl putN (0, 0)).1 (L.foldl putN (0, 0)).2 = l then some (6, L.foldl putN (0, 0)) else none) = none := if_neg (fun q => hbad ⟨q.1, q.2.1⟩)
        rw [hr]
        refine W.cut False [] [] 173 ?_ (fun h => h.elim)
        refine W.of_WE hT mixed M_f23 _ (by kernel_rfl) ?_
        cases i6 with
        | false => simp [Tryz.f23, paV]
        | true =>
          have h8 : ¬ L.length = 8 := fun q => hbad ⟨rfl, q⟩
          simp [Tryz.f23, hln, show ¬ (L.length : Int) = 8 by omega, h8, paV]
    · cases hh
  · cases hh

end Go.Proofs.YtbnjijffkjcmcaaGreatDoor.AL
