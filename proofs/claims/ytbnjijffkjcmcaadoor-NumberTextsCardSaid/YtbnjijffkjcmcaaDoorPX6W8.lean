import Derived.Test.YtbnjijffkjcmcaaDoorPX6W7
import Derived.Test.YtbnjijffkjcmcaaDoorPX6W6
import Derived.Test.YtbnjijffkjcmcaaDoorPX6W3
/- What single functions compute: a part of the proof; no conditions. -/
set_option linter.unusedVariables false
set_option linter.unusedSimpArgs false
set_option maxRecDepth 100000
set_option linter.unusedSectionVars false
namespace Go.Proofs.YtbnjijffkjcmcaaDoor.AL
open Go
attribute [local simp] qf cv qbin ibin sbin qun retPost rvOk ctV ctPost marksOk retV resAll resOf V.lt ltL V.ren renL V.exp V.exp1 cleanL V.clean closedL V.closed V.cells V.one V.tree
  loadV cellsAt isNC nilQ isSlD isIfD slNew ownRows ownCells V.isOwn slStore srcO qlook mlook mget mstr zval qnone qmake mput lmap isAggD placesOf fillV putCells lstore bound seqParts V.sh shL Blk.sh newV V.ok peqs peq srcRows qbytes byteSl appOk mmV mmR hidE V.fz fzL Blk.fz fzOk and_assoc
attribute [-simp] Int.not_le Int.not_lt Nat.not_le Nat.not_lt
/-! The string of an address. -/
theorem by4_eq {l i : Nat} (hl : l < 18446744073709551616) (hi : i < 4) : bAnd .u64 (bShr .u64 (l : Int) (24 - 8 * (i : Int))) 255 = (b4 l i : Int) := by
  unfold b4
  have hp : (24 - 8 * (i : Int)) = ((24 - 8 * i : Nat) : Int) := by omega
  rw [hp, bShr_nat (by omega)]
  have e : ((l : Int) / 2 ^ (24 - 8 * i)) = ((l / 2 ^ (24 - 8 * i) : Nat) : Int) := by
    rw [Int.natCast_ediv, Int.natCast_pow]; rfl
  rw [e]
  have hlt : l / 2 ^ (24 - 8 * i) < 18446744073709551616 := Nat.lt_of_le_of_lt (Nat.div_le_self _ _) hl
  generalize l / 2 ^ (24 - 8 * i) = y at *
  rw [bAnd_u64' (by omega) (by omega) (by omega) (by omega)]
  have : (y : Int).toNat &&& (255 : Int).toNat = y % 256 := Nat.and_two_pow_sub_one_eq_mod y 8
  rw [this]
def kRows (l k : Nat) : List (List V) := bRows ((List.range k).map fun i => dgs 10 (b4 l i))
theorem kRows_zero (l : Nat) : kRows l 0 = [] := rfl
theorem kRows_len (l k : Nat) : (kRows l k).length = k := by simp [kRows, bRows]
theorem kRows_snoc (l k : Nat) : kRows l k ++ [[.str (bs (dgs 10 (b4 l k)))]] = kRows l (k + 1) := by
  unfold kRows
  rw [List.range_succ, List.map_append]
  unfold bRows
  rw [List.map_append]
  rfl
theorem kRows_four (l : Nat) : kRows l 4 = bRows [dgs 10 (b4 l 0), dgs 10 (b4 l 1), dgs 10 (b4 l 2), dgs 10 (b4 l 3)] := rfl
noncomputable def SAddrT : List V → Option Res
  | [.int .u8 f, .agg [.int .u64 h, .int .u64 l]] => ifC ((0 ≤ h ∧ h < 18446744073709551616) ∧ 0 ≤ l ∧ l < 18446744073709551616)
      (some ⟨if cAddr f h l = true then .tup [.str (bs (addrT f.toNat h.toNat l.toNat)), .int .i64 0] else .tup [.str (bs []), .int .i64 2], []⟩)
  | _ => none
theorem addrT_at {f : Int} {h l : Nat} (hh : h < 18446744073709551616) (hl : l < 18446744073709551616) : SAddrT [.int .u8 f, .agg [.int .u64 (h : Int), .int .u64 (l : Int)]] =
    some ⟨if cAddr f h l = true then .tup [.str (bs (addrT f.toNat h l)), .int .i64 0] else .tup [.str (bs []), .int .i64 2], []⟩ := by
  simp only [SAddrT]
  rw [ifC_pos ⟨⟨by omega, by omega⟩, by omega, by omega⟩]
  rfl
theorem cAddr_or {f : Int} {h l : Nat} (hc : cAddr f h l = true) (hh : h < 18446744073709551616) (hl : l < 18446744073709551616) : vA f.toNat h l ∧ (f = 6 ∨ f = 4) := by
  unfold cAddr at hc
  rw [Bool.or_eq_true, Bool.and_eq_true, Bool.and_eq_true, beq_iff_eq, beq_iff_eq, beq_iff_eq, decide_eq_true_eq] at hc
  rcases hc with hc | ⟨⟨hc, h1⟩, h2⟩
  · exact ⟨.inl ⟨by omega, hh, hl⟩, .inl hc⟩
  · exact ⟨.inr ⟨by omega, by omega, by omega⟩, .inr hc⟩
theorem runs_AddrText : ∀ args r, SAddrT args = some r → Runs Tryd.prog 17 args r := by
  intro args r hh
  unfold SAddrT ifC at hh
  split at hh
  · rename_i f h0 l0
    split at hh
    · rename_i hin
      obtain ⟨⟨a1, a2⟩, a3, a4⟩ := hin
      obtain ⟨h, rfl⟩ := Int.eq_ofNat_of_zero_le a1
      obtain ⟨l, rfl⟩ := Int.eq_ofNat_of_zero_le a3
      cases hh
      rw [Int.toNat_natCast, Int.toNat_natCast]
      have hT : ((((T0.add 31 SAddr).add 49 SFu).add 50 SJoin).add 48 SText6).ok Tryd.prog := Tab.add_ok (Tab.add_ok (Tab.add_ok (Tab.add_ok (T0_ok _) runs_number_CheckAddr) runs_Fu) runs_Join) runs_text6
      cases hca : cAddr f h l with
      | false =>
        rw [if_neg (by simp)]
        refine Runs.of_body Tryd.func17 (by decide) rfl (by simp [Tryd.f17]) ?_
        refine W.seqE hT mixed M0 (by kernel_rfl) ?_
        simp [Tryd.f17]
        refine W.cut False [] [] 33 ?_ (fun h => h.elim)
        refine W.of_WE hT mixed M0 _ (by kernel_rfl) ?_
        simp [Tryd.f17, SAddr, hca]
        rfl
      | true =>
        rw [if_pos rfl]
        obtain ⟨hv, hf⟩ := cAddr_or hca (by omega) (by omega)
        rcases hf with rfl | rfl
        · have ht : SText6 [.agg [.int .u64 (h : Int), .int .u64 (l : Int)]] = some ⟨.str (bs (text6L (G8 h l))), []⟩ := by
            simp only [SText6]
            rw [ifC_pos ⟨by omega, by omega, by omega, by omega⟩]
            rfl
          have e : addrT (6 : Int).toNat h l = text6L (G8 h l) := rfl
          rw [e]
          generalize text6L (G8 h l) = TX at *
          refine Runs.of_body Tryd.func17 (by decide) rfl (by simp [Tryd.f17]) ?_
          refine W.seqE hT mixed M0 (by kernel_rfl) ?_
          simp [Tryd.f17]
          refine W.seqE hT mixed M0 (by kernel_rfl) ?_
          simp [Tryd.f17, SAddr, hca]
          refine W.cut False [] [] 33 ?_ (fun h => h.elim)
          refine W.of_WE hT mixed M0 _ (by kernel_rfl) ?_
          simp [Tryd.f17, ht]
        · have h0 : h = 0 ∧ l < 4294967296 := by
            rcases hv with ⟨e, _⟩ | ⟨_, e1, e2⟩
            · exact absurd e (by decide)
            · exact ⟨e1, e2⟩
          obtain ⟨rfl, hl⟩ := h0
          have hca' : cAddr 4 0 (l : Int) = true := hca
          have e : addrT (4 : Int).toNat 0 l = t4 l := rfl
          rw [e]
          have hjl := t4_len l
          have hj : SJoin [.rd 1 (kRows l 4), .str ⟨#[46]⟩] = some ⟨.str (bs (t4 l)), []⟩ := by
            rw [kRows_four]
            exact join_at (sep := [46]) (by unfold t4 at hjl; omega) (by simp)
          generalize t4 l = TX at *
          refine Runs.of_body Tryd.func17 (by decide) rfl (by simp [Tryd.f17]) ?_
          refine W.seqE hT mixed M0 (by kernel_rfl) ?_
          simp [Tryd.f17]
          refine W.seqE hT mixed M0 (by kernel_rfl) ?_
          simp [Tryd.f17, SAddr, hca']
          refine W.seqE hT mixed M0 (by kernel_rfl) ?_
          simp [Tryd.f17]
          refine W.seqE hT mixed M0 (by kernel_rfl) ?_
          simp [Tryd.f17]
          refine W.wk (Wk.adopt 6 1 9 (by omega) (by simp)) ?_
          refine W.cut True [(6, .own 0)] [.sl 1 9 (kRows l 4)] 33 ?_ ?_
          · refine W.seqE hT mixed M0 (by kernel_rfl) ?_
            simp [Tryd.f17]
            refine W.block (W.for (fun k => True) (fun k => [(3, .ptr 0 0), (6, .own 1), (16, .int .i64 k)]) (fun k => [.box 24 [.int .u64 0, .int .u64 (l : Int)], .sl 1 9 (kRows l k)]) 33 4 trivial ?_ ?_)
            · simp [kRows_zero]
            · intro k hk _
              refine W.of_WE hT mixed M0 _ (by kernel_rfl) ?_
              by_cases hlt : k < 4
              · have hlt' : (k : Int) < 4 := by omega
                have hw1 : IntKind.i64.wrap ((k : Int) + 1) = k + 1 := wr_i64 (by omega) (by omega)
                have hw2 : IntKind.i64.wrap (8 * (k : Int)) = 8 * k := wr_i64 (by omega) (by omega)
                have hw3 : IntKind.i64.wrap (24 - 8 * (k : Int)) = 24 - 8 * k := wr_i64 (by omega) (by omega)
                have hp : (0 : Int) ≤ 24 - 8 * (k : Int) := by omega
                have hby := by4_eq (l := l) (by omega) hlt
                have hf := fu_at (x := b4 l k) (b := 10) (by have := b4_lt l k; omega) (.inl rfl)
                rw [show ((10 : Nat) : Int) = 10 from rfl] at hf
                have hsn := kRows_snoc l k
                have hln := kRows_len l k
                simp [hlt, hlt', hw1, hw2, hw3, hp, hby, hf]
                exact ⟨by omega, by omega, by omega, hsn⟩
              · have : k = 4 := by omega
                subst this
                simp
          · intro _
            refine W.wk (Wk.freeze 0 (.sl 1 9 (kRows l 4)) (by simp) (by simp [kRows_four, bRows])) ?_
            refine W.of_WE hT mixed M0 _ (by kernel_rfl) ?_
            simp [Tryd.f17, hj]
    · cases hh
  · cases hh

end Go.Proofs.YtbnjijffkjcmcaaDoor.AL
namespace Go.Proofs.YtbnjijffkjcmcaaDoor.AL
open Go
attribute [local simp] qf cv qbin ibin sbin qun retPost rvOk ctV ctPost marksOk retV resAll resOf V.lt ltL V.ren renL V.exp V.exp1 cleanL V.clean closedL V.closed V.cells V.one V.tree
  loadV cellsAt isNC nilQ isSlD isIfD slNew ownRows ownCells V.isOwn slStore srcO qlook mlook mget mstr zval qnone qmake mput lmap isAggD placesOf fillV putCells lstore bound seqParts V.sh shL Blk.sh newV V.ok peqs peq srcRows qbytes byteSl appOk mmV mmR hidE V.fz fzL Blk.fz fzOk and_assoc
attribute [-simp] Int.not_le Int.not_lt Nat.not_le Nat.not_lt
/-! An address out of a string. -/
def paV : Option (Nat × Nat × Nat) → V
  | some (f, h, l) => .tup [.int .u8 (f : Int), .agg [.int .u64 (h : Int), .int .u64 (l : Int)], .int .i64 0]
  | none => .tup [.int .u8 0, .agg [.int .u64 0, .int .u64 0], .int .i64 12]
noncomputable def SAP : List V → Option Res
  | [.str s] => ifC (s.size < 100000) (some ⟨paV (pa s.data.toList), []⟩)
  | _ => none
theorem ap_at {l : List UInt8} (h : l.length < 100000) : SAP [.str (bs l)] = some ⟨paV (pa l), []⟩ := by
  simp only [SAP, bs_size, bs_data]
  rw [ifC_pos h]
def M_f19 : Md := fun i => if i = 9 then some #[0, 0, 1, 7, 15] else some #[]
@[simp] theorem M_f19_eq {i : Nat} : M_f19 i = (if i = 9 then some #[0, 0, 1, 7, 15] else some #[]) := rfl
theorem runs_AddrParse : ∀ args r, SAP args = some r → Runs Tryd.prog 19 args r := by
  intro args r hh
  unfold SAP ifC at hh
  split at hh
  · rename_i s0
    obtain ⟨l, rfl⟩ := bs_ex s0
    rw [bs_size, bs_data] at hh
    split at hh
    · rename_i hlen
      cases hh
      have hT : ((((T0.add 56 SP4).add 57 SCont).add 58 SP6).add 17 SAddrT).ok Tryd.prog := Tab.add_ok (Tab.add_ok (Tab.add_ok (Tab.add_ok (T0_ok _) runs_parse4) runs_Cont) runs_parse6) runs_AddrText
      have h4 := p4_at hlen
      have h6 := p6_at hlen
      have hct : SCont [.str (bs l), .str ⟨#[58]⟩] = some ⟨.bool (l.contains 58), []⟩ := cont_at
      have b4 := parse4_lt l
      obtain ⟨b6, b6'⟩ := parse6_lt l
      have ht4 := addrT_at (f := 4) (h := 0) (l := parse4L l) (by decide) (by omega)
      have ht6 := addrT_at (f := 6) (h := (parse6L l).1) (l := (parse6L l).2) b6 b6'
      rw [if_pos (by unfold cAddr; simp; omega)] at ht4
      rw [if_pos (by unfold cAddr; simp)] at ht6
      have hpa : pa l = if 50 < l.length then none else if l.contains 58 then (if addrT 6 (parse6L l).1 (parse6L l).2 = l then some (6, (parse6L l).1, (parse6L l).2) else none) else if addrT 4 0 (parse4L l) = l then some (4, 0, parse4L l) else none := rfl
      rw [hpa]
      rw [show (4 : Int).toNat = 4 from rfl, show ((0 : Nat) : Int) = 0 from rfl] at ht4
      rw [show (6 : Int).toNat = 6 from rfl] at ht6
      clear hpa
      generalize l.contains 58 = ct at *
      generalize hX4 : addrT 4 0 (parse4L l) = X4 at *
      generalize hX6 : addrT 6 (parse6L l).1 (parse6L l).2 = X6 at *
      refine Runs.of_body Tryd.func19 (by decide) rfl (by simp [Tryd.f19]) ?_
      by_cases hlong : 50 < l.length
      · have hl' : (50 : Int) < l.length := by omega
        rw [if_pos hlong]
        refine W.seqE hT mixed M_f19 (by kernel_rfl) ?_
        simp [Tryd.f19]
        refine W.cut False [] [] 29 ?_ (fun h => h.elim)
        refine W.of_WE hT mixed M_f19 _ (by kernel_rfl) ?_
        simp [Tryd.f19, bs_size, hl', paV]
      · have hl' : ¬ (50 : Int) < l.length := by omega
        rw [if_neg hlong]
        refine W.seqE hT mixed M_f19 (by kernel_rfl) ?_
        simp [Tryd.f19]
        refine W.seqE hT mixed M_f19 (by kernel_rfl) ?_
        simp [Tryd.f19, bs_size, hl']
        refine W.seqE hT mixed M_f19 (by kernel_rfl) ?_
        simp [Tryd.f19, h4]
        cases ct with
        | false =>
          refine W.of_WE hT mixed M_f19 _ (by kernel_rfl) ?_
          by_cases hx : X4 = l
          · subst hx
            simp [Tryd.f19, hct, ht4, bs_toList, paV]
          · simp [Tryd.f19, hct, ht4, bs_toList, paV, hx]
        | true =>
          refine W.of_WE hT mixed M_f19 _ (by kernel_rfl) ?_
          by_cases hx : X6 = l
          · simp [Tryd.f19, hct, h6, ht6, bs_toList, paV, hx]
          · simp [Tryd.f19, hct, h6, ht6, bs_toList, paV, hx]
    · cases hh
  · cases hh

end Go.Proofs.YtbnjijffkjcmcaaDoor.AL
namespace Go.Proofs.YtbnjijffkjcmcaaDoor.AL
open Go
/-! ### Strings of prefixes and of numbers of systems -/
theorem hj_no {c : UInt8} (hc : c.toNat < 48 ∨ (57 < c.toNat ∧ c.toNat < 97) ∨ 102 < c.toNat) (h58 : c ≠ 58) (L : List Nat) (h : ∀ x ∈ L, x < 65536) : c ∉ hj L := by
  intro hm
  unfold hj at hm
  rcases mem_join _ hm with hm | ⟨p, hp, hm⟩
  · simp at hm; exact h58 hm
  · obtain ⟨y, hy, rfl⟩ := List.mem_map.1 hp
    exact dgs_no (by omega) (by omega) (by have := h y hy; omega) hc hm
theorem addrT_no {c : UInt8} (hc : c.toNat < 46 ∨ c.toNat = 47 ∨ (58 < c.toNat ∧ c.toNat < 97) ∨ 102 < c.toNat) (f h l : Nat) : c ∉ addrT f h l := by
  have h58 : c ≠ 58 := by rintro rfl; revert hc; decide
  have h46 : c ≠ 46 := by rintro rfl; revert hc; decide
  have hc' : c.toNat < 48 ∨ (57 < c.toNat ∧ c.toNat < 97) ∨ 102 < c.toNat := by omega
  intro hm
  unfold addrT at hm
  split at hm
  · unfold text6L at hm
    have hG := G8_lt h l
    split at hm
    · exact hj_no hc' h58 _ hG hm
    · rcases List.mem_append.1 hm with hm | hm
      · exact hj_no hc' h58 _ (fun x hx => hG x (List.mem_of_mem_take hx)) hm
      · simp only [List.mem_cons] at hm
        rcases hm with hm | hm | hm
        · exact h58 hm
        · exact h58 hm
        · exact hj_no hc' h58 _ (fun x hx => hG x (List.mem_of_mem_drop hx)) hm
  · unfold t4 at hm
    rcases mem_join _ hm with hm | ⟨p, hp, hm⟩
    · simp at hm; exact h46 hm
    · simp only [List.mem_cons, List.not_mem_nil, or_false] at hp
      have key : ∀ i, c ∉ dgs 10 (b4 l i) := fun i => dgs_no (by omega) (by omega) (by have := b4_lt l i; omega) hc'
      rcases hp with rfl | rfl | rfl | rfl <;> exact key _ hm
theorem cutG_at {c : UInt8} {a : List UInt8} (b : List UInt8) (h : c ∉ a) : cutG [c] (a ++ c :: b) = some (a, b) := by
  rcases cutG_one c (a ++ c :: b) with ⟨_, h2⟩ | ⟨a', b', h1, h2, h3⟩
  · exact absurd (by simp) h2
  · rw [h1]
    have e1 := spl_app b h
    rw [h3, spl_app b' h2] at e1
    simp only [List.cons.injEq] at e1
    obtain ⟨rfl, _⟩ := e1
    have := List.append_cancel_left h3
    simp only [List.cons.injEq, true_and] at this
    rw [this]
def ppT (f h l n : Nat) : List UInt8 := addrT f h l ++ 47 :: dgs 10 n
def ppX (s : List UInt8) (n : Nat) : Option (Nat × Nat × Nat) → Option (Nat × Nat × Nat × Nat)
  | some (f, h, l) => if chkP f h l n = 0 ∧ ppT f h l n = s then some (f, h, l, n) else none
  | none => none
/-- What the program reads as a prefix. -/
def pp (s : List UInt8) : Option (Nat × Nat × Nat × Nat) := match pu 10 255 (Lib.cut s [47]).2.1 with
  | .ok n => ppX s n (pa (Lib.cut s [47]).1)
  | _ => none
theorem chk_le {f h l n : Nat} (hc : chkP f h l n = 0) : n ≤ 128 := by
  obtain ⟨j, e, hj, _⟩ := chk_zero hc
  have := widN_le f
  omega
theorem pp_iff {s : List UInt8} {f h l n : Nat} : pp s = some (f, h, l, n) ↔ vA f h l ∧ chkP f h l n = 0 ∧ ppT f h l n = s := by
  constructor
  · intro e
    unfold pp at e
    split at e
    · rename_i m hm
      cases hp : pa (Lib.cut s [47]).1 with
      | none => rw [hp] at e; cases e
      | some q =>
        obtain ⟨f', h', l'⟩ := q
        rw [hp] at e
        simp only [ppX] at e
        split at e
        · rename_i hh
          cases e
          exact ⟨(pa_iff.1 hp).1, hh⟩
        · cases e
    · cases e
  · rintro ⟨hv, hc, rfl⟩
    have hn := chk_le hc
    have hcut : Lib.cut (ppT f h l n) [47] = (addrT f h l, dgs 10 n, true) := by
      rw [cut_cutG (by simp)]
      unfold ppT
      rw [cutG_at _ (addrT_no (by decide) f h l)]
    unfold pp
    rw [hcut]
    simp only
    rw [pu_dgs (by omega) (by omega) (by omega) (by omega), pa_text hv]
    simp only [ppX]
    rw [if_pos ⟨hc, trivial⟩]
/-- What the reference reads as a prefix. -/
def rpX (x y : List UInt8) : Option (Nat × Nat × Nat) → Option (Nat × Nat × Nat × Nat)
  | some (f, h, l) => if (rnum 10 128 y).2 = true ∧ chkP f h l (rnum 10 128 y).1 = 0 then some (f, h, l, (rnum 10 128 y).1) else none
  | none => none
def rp (s : List UInt8) : Option (Nat × Nat × Nat × Nat) := match spl 47 s with
  | [x, y] => rpX x y (ra x)
  | _ => none
theorem rp_eq (s : List UInt8) : rp s = pp s := by
  apply Option.ext
  rintro ⟨f, h, l, n⟩
  rw [pp_iff]
  constructor
  · intro e
    unfold rp at e
    split at e
    · rename_i x y hs
      have hj := join_spl 47 s
      rw [hs, join_cons2, Lib.join_one] at hj
      cases hp : ra x with
      | none => rw [hp] at e; cases e
      | some q =>
        obtain ⟨f', h', l'⟩ := q
        rw [hp] at e
        simp only [rpX] at e
        split at e
        · rename_i hh
          cases e
          rw [ra_eq] at hp
          obtain ⟨h1, h2⟩ := pa_iff.1 hp
          obtain ⟨h3, _⟩ := (rnum_iff (b := 10) (lim := 128) (by omega) (by omega) (by decide) (by decide) (l := y) (n := (rnum 10 128 y).1)).1 (by rw [← hh.1])
          refine ⟨h1, hh.2, ?_⟩
          unfold ppT
          rw [← h3, h2, ← hj]
          simp
        · cases e
    · cases e
  · rintro ⟨hv, hc, rfl⟩
    have hn := chk_le hc
    have hs : spl 47 (ppT f h l n) = [addrT f h l, dgs 10 n] := by
      unfold ppT
      rw [spl_app _ (addrT_no (by decide) f h l), spl_none (dgs_no (by omega) (by omega) (by omega) (by decide))]
    have hr := (rnum_iff (b := 10) (lim := 128) (by omega) (by omega) (by decide) (by decide) (l := dgs 10 n) (n := n)).2 ⟨rfl, hn⟩
    unfold rp
    rw [hs]
    simp only
    rw [ra_eq, pa_text hv]
    simp only [rpX, hr]
    rw [if_pos ⟨trivial, hc⟩]
def asT (n : Nat) : List UInt8 := 65 :: 83 :: dgs 10 n
/-- What the program reads as a number of a system. -/
def asp (s : List UInt8) : Option Nat := if Lib.hasPrefix s [65, 83] = true then (match pu 10 4294967295 (Lib.trimPrefix s [65, 83]) with
  | .ok n => if asT n = s then some n else none
  | _ => none) else none
theorem hasP_as (r : List UInt8) : Lib.hasPrefix (65 :: 83 :: r) [65, 83] = true ∧ Lib.trimPrefix (65 :: 83 :: r) [65, 83] = r := by
  have h : Lib.hasPrefix (65 :: 83 :: r) [65, 83] = true := by simp [Lib.hasPrefix, List.isPrefixOf]
  exact ⟨h, by unfold Lib.trimPrefix; rw [if_pos h]; rfl⟩
theorem asp_iff {s : List UInt8} {n : Nat} : asp s = some n ↔ n < 4294967296 ∧ asT n = s := by
  constructor
  · intro e
    unfold asp at e
    split at e
    · split at e
      · rename_i m hm
        split at e
        · rename_i h
          cases e
          refine ⟨?_, h⟩
          unfold pu at hm
          split at hm
          · cases hm
          · have := puF_le _ _ _ (Nat.zero_le _) hm
            omega
        · cases e
      · cases e
    · cases e
  · rintro ⟨h, rfl⟩
    obtain ⟨h1, h2⟩ := hasP_as (dgs 10 n)
    unfold asp
    have e : asT n = 65 :: 83 :: dgs 10 n := rfl
    rw [e, if_pos h1, h2, pu_dgs (by omega) (by omega) (by omega) (by omega)]
    simp only
    rw [if_pos e]
def ras (s : List UInt8) : Option Nat := if s.length < 2 ∨ s.take 2 ≠ [65, 83] then none else if (rnum 10 4294967295 (s.drop 2)).2 = true then some (rnum 10 4294967295 (s.drop 2)).1 else none
theorem ras_eq (s : List UInt8) : ras s = asp s := by
  apply Option.ext
  intro n
  rw [asp_iff]
  have hi := fun (l : List UInt8) (n : Nat) => rnum_iff (b := 10) (lim := 4294967295) (by omega) (by omega) (by decide) (by decide) (l := l) (n := n)
  constructor
  · intro e
    unfold ras at e
    split at e
    · cases e
    · rename_i h1
      split at e
      · rename_i h2
        cases e
        obtain ⟨h3, h4⟩ := (hi (s.drop 2) _).1 (by rw [← h2])
        refine ⟨by omega, ?_⟩
        unfold asT
        rw [← h3]
        have ht : s.take 2 = [65, 83] := by
          rcases Classical.em (s.take 2 = [65, 83]) with h | h
          · exact h
          · exact absurd (.inr h) h1
        have := List.take_append_drop 2 s
        rw [ht] at this
        exact this
      · cases e
  · rintro ⟨h, rfl⟩
    have hr := (hi (dgs 10 n) n).2 ⟨rfl, by omega⟩
    unfold ras asT
    rw [if_neg (by simp)]
    simp only [List.drop_succ_cons, List.drop_zero, hr, if_true]
theorem asT_inj {n m : Nat} (hn : n < 4294967296) (hm : m < 4294967296) (h : asT n = asT m) : n = m := by
  unfold asT at h
  simp only [List.cons.injEq, true_and] at h
  exact dgs_inj (by omega) (by omega) (by omega) (by omega) h
end Go.Proofs.YtbnjijffkjcmcaaDoor.AL
namespace Go.Proofs.YtbnjijffkjcmcaaDoor.AL
open Go
attribute [local simp] qf cv qbin ibin sbin qun retPost rvOk ctV ctPost marksOk retV resAll resOf V.lt ltL V.ren renL V.exp V.exp1 cleanL V.clean closedL V.closed V.cells V.one V.tree
  loadV cellsAt isNC nilQ isSlD isIfD slNew ownRows ownCells V.isOwn slStore srcO qlook mlook mget mstr zval qnone qmake mput lmap isAggD placesOf fillV putCells lstore bound seqParts V.sh shL Blk.sh newV V.ok peqs peq srcRows qbytes byteSl appOk mmV mmR hidE V.fz fzL Blk.fz fzOk and_assoc
attribute [-simp] Int.not_le Int.not_lt Nat.not_le Nat.not_lt
/-! Strings of prefixes. -/
noncomputable def SChkN : List V → Option Res
  | [.agg [.int .u8 f, .int .u64 h, .int .u64 l, .int .i64 n]] => ifC (inA h l) (some ⟨.int .i64 (chkP f h l n), []⟩)
  | _ => none
theorem runs_ChkN : ∀ args r, SChkN args = some r → Runs Tryd.prog 14 args r := by
  intro args r hh
  unfold SChkN ifC at hh
  split at hh
  · split at hh
    · rename_i h
      cases hh
      exact runs_number_Check _ _ (by simp only [SCheck]; rw [if_pos h])
    · cases hh
  · cases hh
theorem chkN_at {f n : Int} {h l : Nat} (hh : h < 18446744073709551616) (hl : l < 18446744073709551616) : SChkN [.agg [.int .u8 f, .int .u64 (h : Int), .int .u64 (l : Int), .int .i64 n]] = some ⟨.int .i64 (chkP f h l n), []⟩ := by
  simp only [SChkN]
  rw [ifC_pos ⟨by omega, by omega, by omega, by omega⟩]
noncomputable def STx : List V → Option Res
  | [.agg [.int .u8 f, .int .u64 h, .int .u64 l, .int .i64 n]] => ifC (inA h l) (some ⟨if chkP f h l n = 0 then .tup [.str (bs (ppT f.toNat h.toNat l.toNat n.toNat)), .int .i64 0] else .tup [.str (bs []), .int .i64 (chkP f h l n)], []⟩)
  | _ => none
theorem tx_at {f n : Int} {h l : Nat} (hh : h < 18446744073709551616) (hl : l < 18446744073709551616) : STx [.agg [.int .u8 f, .int .u64 (h : Int), .int .u64 (l : Int), .int .i64 n]] =
    some ⟨if chkP f h l n = 0 then .tup [.str (bs (ppT f.toNat h l n.toNat)), .int .i64 0] else .tup [.str (bs []), .int .i64 (chkP f h l n)], []⟩ := by
  simp only [STx]
  rw [ifC_pos ⟨by omega, by omega, by omega, by omega⟩]
  rfl
theorem chk_addr {f n : Int} {h l : Nat} (hc : chkP f h l n = 0) : cAddr f h l = true ∧ ∃ j : Nat, n = j ∧ j ≤ 128 := by
  obtain ⟨j, e, hj, h1, _⟩ := chk_zero hc
  have := widN_le f
  exact ⟨h1, j, e, by omega⟩
def M_f21 : Md := fun i => some #[]
@[simp] theorem M_f21_eq {i : Nat} : M_f21 i = (some #[]) := rfl
theorem runs_number_Text : ∀ args r, STx args = some r → Runs Tryd.prog 21 args r := by
  intro args r hh
  unfold STx ifC at hh
  split at hh
  · rename_i f h0 l0 n
    split at hh
    · rename_i hin
      obtain ⟨a1, a2, a3, a4⟩ := hin
      obtain ⟨h, rfl⟩ := Int.eq_ofNat_of_zero_le a1
      obtain ⟨l, rfl⟩ := Int.eq_ofNat_of_zero_le a3
      cases hh
      rw [Int.toNat_natCast, Int.toNat_natCast]
      have hT : (((T0.add 14 SChkN).add 17 SAddrT).add 60 SIto).ok Tryd.prog := Tab.add_ok (Tab.add_ok (Tab.add_ok (T0_ok _) runs_ChkN) runs_AddrText) runs_Ito
      have hck := chkN_at (f := f) (n := n) (h := h) (l := l) (by omega) (by omega)
      have hat := addrT_at (f := f) (h := h) (l := l) (by omega) (by omega)
      refine Runs.of_body Tryd.func21 (by decide) rfl (by simp [Tryd.f21]) ?_
      by_cases hc : chkP f h l n = 0
      · obtain ⟨hca, j, rfl, hj⟩ := chk_addr hc
        have hit := ito_at (n := j) (by omega)
        have hlen := addrT_len f.toNat h l
        have hdl : (dgs 10 j).length ≤ 3 := dgs_len (by omega) 2 j (by omega) (by omega)
        rw [if_pos hc, Int.toNat_natCast]
        rw [if_pos hca] at hat
        rw [hc] at hck
        have e : ppT f.toNat h l j = addrT f.toNat h l ++ 47 :: dgs 10 j := rfl
        rw [e]
        generalize addrT f.toNat h l = X at *
        generalize dgs 10 j = Y at *
        have hc1 : bs X ++ ⟨#[47]⟩ = bs (X ++ [47]) := bs_append X [47]
        have hc2 : bs (X ++ [47]) ++ bs Y = bs (X ++ 47 :: Y) := by rw [bs_append]; simp
        have hz : (⟨#[47]⟩ : ByteArray).size = 1 := rfl
        have hz1 : ((bs X).size : Int) + 1 ≤ 9223372036854775807 := by rw [bs_size]; omega
        have hz2 : ((bs (X ++ [47])).size : Int) + (bs Y).size ≤ 9223372036854775807 := by rw [bs_size, bs_size]; simp; omega
        refine W.of_WE hT mixed M_f21 _ (by kernel_rfl) ?_
        simp [Tryd.f21, hck, hat, hit, hc1, hc2, hz, hz1, hz2]
      · rw [if_neg hc]
        generalize chkP f h l n = ck at *
        refine W.of_WE hT mixed M_f21 _ (by kernel_rfl) ?_
        simp [Tryd.f21, hck, hc]
        rfl
    · cases hh
  · cases hh
def ppV : Option (Nat × Nat × Nat × Nat) → V
  | some (f, h, l, n) => .tup [.agg [.int .u8 (f : Int), .int .u64 (h : Int), .int .u64 (l : Int), .int .i64 (n : Int)], .int .i64 0]
  | none => .tup [.agg [.int .u8 0, .int .u64 0, .int .u64 0, .int .i64 0], .int .i64 12]
noncomputable def SPf : List V → Option Res
  | [.str s] => ifC (s.size < 100000) (some ⟨ppV (pp s.data.toList), []⟩)
  | _ => none
theorem pf_at {l : List UInt8} (h : l.length < 100000) : SPf [.str (bs l)] = some ⟨ppV (pp l), []⟩ := by
  simp only [SPf, bs_size, bs_data]
  rw [ifC_pos h]
theorem cut_len (c : UInt8) (l : List UInt8) : (Lib.cut l [c]).1.length ≤ l.length ∧ (Lib.cut l [c]).2.1.length ≤ l.length := by
  rw [cut_cutG (by simp)]
  cases h : cutG [c] l with
  | none => simp
  | some p =>
    obtain ⟨a, b⟩ := p
    have := (cutG_len (by simp) h).2
    simp at this ⊢
    omega
theorem pa_lt {s : List UInt8} {f h l : Nat} (e : pa s = some (f, h, l)) : h < 18446744073709551616 ∧ l < 18446744073709551616 ∧ f < 7 := by
  rcases (pa_iff.1 e).1 with ⟨h1, h2, h3⟩ | ⟨h1, h2, h3⟩ <;> omega
def M_f23 : Md := fun i => some #[]
@[simp] theorem M_f23_eq {i : Nat} : M_f23 i = (some #[]) := rfl
theorem runs_number_Parse : ∀ args r, SPf args = some r → Runs Tryd.prog 23 args r := by
  intro args r hh
  unfold SPf ifC at hh
  split at hh
  · rename_i s0
    obtain ⟨s, rfl⟩ := bs_ex s0
    rw [bs_size, bs_data] at hh
    split at hh
    · rename_i hlen
      cases hh
      have hT : ((((T0.add 61 SCutS).add 19 SAP).add 62 SPu).add 21 STx).ok Tryd.prog := Tab.add_ok (Tab.add_ok (Tab.add_ok (Tab.add_ok (T0_ok _) runs_CutS) runs_AddrParse) runs_Pu) runs_number_Text
      have hcl := cut_len 47 s
      have hcut : SCutS [.str (bs s), .str ⟨#[47]⟩] = some ⟨.tup [.str (bs (Lib.cut s [47]).1), .str (bs (Lib.cut s [47]).2.1), .bool (Lib.cut s [47]).2.2], []⟩ := cutS_at (sep := [47]) (by simp) (by omega)
      have hap := ap_at (l := (Lib.cut s [47]).1) (by omega)
      have hpu := pu_at (l := (Lib.cut s [47]).2.1) (b := 10) (w := 8) (c := 10) (M := 255) rfl (by omega)
      have hpp : pp s = match pu 10 255 (Lib.cut s [47]).2.1 with | .ok n => ppX s n (pa (Lib.cut s [47]).1) | _ => none := rfl
      have hpv := pv_le (b := 10) (M := 255) (Lib.cut s [47]).2.1
      have hpve : pv 10 255 (Lib.cut s [47]).2.1 = (pu 10 255 (Lib.cut s [47]).2.1).val 255 := rfl
      have hal := fun f h l => pa_lt (s := (Lib.cut s [47]).1) (f := f) (h := h) (l := l)
      rw [hpp]
      clear hpp
      generalize (Lib.cut s [47]).2.2 = cc at *
      generalize (Lib.cut s [47]).2.1 = cb at *
      generalize (Lib.cut s [47]).1 = ca at *
      generalize pa ca = PA at *
      generalize pv 10 255 cb = N at *
      generalize pu 10 255 cb = PU at *
      have hw1 : IntKind.i64.wrap (N : Int) = N := wr_i64 (by omega) (by omega)
      refine Runs.of_body Tryd.func23 (by decide) rfl (by simp [Tryd.f23]) ?_
      refine W.seqE hT mixed M_f23 (by kernel_rfl) ?_
      simp [Tryd.f23]
      refine W.seqE hT mixed M_f23 (by kernel_rfl) ?_
      simp [Tryd.f23, hcut]
      cases PA with
      | none =>
        have hr : (match PU with | .ok n => ppX s n none | _ => none) = none := by cases PU <;> rfl
        rw [hr]
        have hev := errP_or PU
        generalize errP PU = EV at *
        refine W.of_WE hT mixed M_f23 _ (by kernel_rfl) ?_
        rcases hev with rfl | rfl
        · simp [Tryd.f23, hap, hpu, paV, ppV, hw1]
        · simp [Tryd.f23, hap, hpu, paV, ppV, hw1]
      | some q =>
        obtain ⟨f, h, l⟩ := q
        obtain ⟨hh1, hl1, hf1⟩ := hal f h l rfl
        cases PU with
        | ok n =>
          obtain rfl : N = n := hpve
          have ht := tx_at (f := (f : Int)) (n := (N : Int)) hh1 hl1
          rw [Int.toNat_natCast, Int.toNat_natCast] at ht
          refine W.of_WE hT mixed M_f23 _ (by kernel_rfl) ?_
          by_cases hc : chkP (f : Int) h l N = 0
          · rw [if_pos hc] at ht
            generalize hX : ppT f h l N = X at *
            by_cases hx : X = s
            · have hr : (match PEnd.ok N with | .ok n => ppX s n (some (f, h, l)) | _ => none) = some (f, h, l, N) := by
                show ppX s N (some (f, h, l)) = _
                simp only [ppX]
                rw [if_pos ⟨hc, by rw [hX]; exact hx⟩]
              rw [hr]
              simp [Tryd.f23, hap, hpu, paV, ppV, hw1, errP, PEnd.good, ht, bs_toList, hx]
            · have hr : (match PEnd.ok N with | .ok n => ppX s n (some (f, h, l)) | _ => none) = none := by
                show ppX s N (some (f, h, l)) = _
                simp only [ppX]
                rw [if_neg (fun e => hx (by rw [← hX]; exact e.2))]
              rw [hr]
              simp [Tryd.f23, hap, hpu, paV, ppV, hw1, errP, PEnd.good, ht, bs_toList, hx]
          · have hr : (match PEnd.ok N with | .ok n => ppX s n (some (f, h, l)) | _ => none) = none := by
              show ppX s N (some (f, h, l)) = _
              simp only [ppX]
              rw [if_neg (fun e => hc e.1)]
            rw [hr]
            rw [if_neg hc] at ht
            generalize chkP (f : Int) h l N = ck at *
            simp [Tryd.f23, hap, hpu, paV, ppV, hw1, errP, PEnd.good, ht, bs_toList, hc]
        | synt =>
          refine W.of_WE hT mixed M_f23 _ (by kernel_rfl) ?_
          simp [Tryd.f23, hap, hpu, paV, ppV, hw1, errP, PEnd.good]
        | over =>
          refine W.of_WE hT mixed M_f23 _ (by kernel_rfl) ?_
          simp [Tryd.f23, hap, hpu, paV, ppV, hw1, errP, PEnd.good]
    · cases hh
  · cases hh

end Go.Proofs.YtbnjijffkjcmcaaDoor.AL
namespace Go.Proofs.YtbnjijffkjcmcaaDoor.AL
open Go
attribute [local simp] qf cv qbin ibin sbin qun retPost rvOk ctV ctPost marksOk retV resAll resOf V.lt ltL V.ren renL V.exp V.exp1 cleanL V.clean closedL V.closed V.cells V.one V.tree
  loadV cellsAt isNC nilQ isSlD isIfD slNew ownRows ownCells V.isOwn slStore srcO qlook mlook mget mstr zval qnone qmake mput lmap isAggD placesOf fillV putCells lstore bound seqParts V.sh shL Blk.sh newV V.ok peqs peq srcRows qbytes byteSl appOk mmV mmR hidE V.fz fzL Blk.fz fzOk and_assoc
attribute [-simp] Int.not_le Int.not_lt Nat.not_le Nat.not_lt
/-! Numbers of systems. -/
noncomputable def SAsT : List V → Option Res
  | [.int .u32 a] => ifC (0 ≤ a ∧ a < 4294967296) (some ⟨.str (bs (asT a.toNat)), []⟩)
  | _ => none
theorem ast_at {n : Nat} (h : n < 4294967296) : SAsT [.int .u32 (n : Int)] = some ⟨.str (bs (asT n)), []⟩ := by
  simp only [SAsT]
  rw [ifC_pos ⟨by omega, by omega⟩]
  rfl
theorem runs_AsText : ∀ args r, SAsT args = some r → Runs Tryd.prog 27 args r := by
  intro args r hh
  unfold SAsT ifC at hh
  split at hh
  · rename_i a
    split at hh
    · rename_i hin
      obtain ⟨n, rfl⟩ := Int.eq_ofNat_of_zero_le hin.1
      cases hh
      rw [Int.toNat_natCast]
      have hT : (T0.add 49 SFu).ok Tryd.prog := Tab.add_ok (T0_ok _) runs_Fu
      have hf := fu_at (x := n) (b := 10) (by omega) (.inl rfl)
      rw [show ((10 : Nat) : Int) = 10 from rfl] at hf
      have hw1 : IntKind.u64.wrap (n : Int) = n := wr_u64 (by omega) (by omega)
      have hdl : (dgs 10 n).length ≤ 10 := dgs_len (by omega) 9 n (by omega) (by omega)
      have e : asT n = [65, 83] ++ dgs 10 n := rfl
      rw [e]
      generalize dgs 10 n = Y at *
      have hc2 : (⟨#[65, 83]⟩ : ByteArray) ++ bs Y = bs ([65, 83] ++ Y) := bs_append [65, 83] Y
      have hz : (⟨#[65, 83]⟩ : ByteArray).size = 2 := rfl
      have hz2 : (2 : Int) + (bs Y).size ≤ 9223372036854775807 := by rw [bs_size]; omega
      generalize [65, 83] ++ Y = Z at *
      refine Runs.of_body Tryd.func27 (by decide) rfl (by simp [Tryd.f27]) ?_
      refine W.of_WE hT mixed M0 _ (by kernel_rfl) ?_
      simp [Tryd.f27, hf, hw1, hc2, hz, hz2]
    · cases hh
  · cases hh
def asV : Option Nat → V
  | some n => .tup [.int .u32 (n : Int), .int .i64 0]
  | none => .tup [.int .u32 0, .int .i64 12]
noncomputable def SAsP : List V → Option Res
  | [.str s] => ifC (s.size < 100000) (some ⟨asV (asp s.data.toList), []⟩)
  | _ => none
theorem asp_at {l : List UInt8} (h : l.length < 100000) : SAsP [.str (bs l)] = some ⟨asV (asp l), []⟩ := by
  simp only [SAsP, bs_size, bs_data]
  rw [ifC_pos h]
def M_f25 : Md := fun i => some #[]
@[simp] theorem M_f25_eq {i : Nat} : M_f25 i = (some #[]) := rfl
theorem runs_AsParse : ∀ args r, SAsP args = some r → Runs Tryd.prog 25 args r := by
  intro args r hh
  unfold SAsP ifC at hh
  split at hh
  · rename_i s0
    obtain ⟨s, rfl⟩ := bs_ex s0
    rw [bs_size, bs_data] at hh
    split at hh
    · rename_i hlen
      cases hh
      have hT : (((T0.add 65 SCutP).add 62 SPu).add 27 SAsT).ok Tryd.prog := Tab.add_ok (Tab.add_ok (Tab.add_ok (T0_ok _) runs_CutP) runs_Pu) runs_AsText
      have hcp : SCutP [.str (bs s), .str ⟨#[65, 83]⟩] = some ⟨.tup [.str (bs (Lib.trimPrefix s [65, 83])), .bool (Lib.hasPrefix s [65, 83])], []⟩ := by simp only [SCutP, bs_data]
      have hpu := pu_at (l := Lib.trimPrefix s [65, 83]) (b := 10) (w := 32) (c := 10) (M := 4294967295) rfl (by have := Lib.trimPrefix_le s [65, 83]; omega)
      have hasp : asp s = if Lib.hasPrefix s [65, 83] = true then (match pu 10 4294967295 (Lib.trimPrefix s [65, 83]) with | .ok n => if asT n = s then some n else none | _ => none) else none := rfl
      have hpv := pv_le (b := 10) (M := 4294967295) (Lib.trimPrefix s [65, 83])
      have hpve : pv 10 4294967295 (Lib.trimPrefix s [65, 83]) = (pu 10 4294967295 (Lib.trimPrefix s [65, 83])).val 4294967295 := rfl
      rw [hasp]
      clear hasp
      generalize Lib.trimPrefix s [65, 83] = rs at *
      generalize Lib.hasPrefix s [65, 83] = hp at *
      generalize pv 10 4294967295 rs = N at *
      generalize pu 10 4294967295 rs = PU at *
      have hw1 : IntKind.u32.wrap (N : Int) = N := wr_u32 (by omega) (by omega)
      have hat := ast_at (n := N) (by omega)
      generalize hX : asT N = X at *
      refine Runs.of_body Tryd.func25 (by decide) rfl (by simp [Tryd.f25]) ?_
      refine W.of_WE hT mixed M_f25 _ (by kernel_rfl) ?_
      cases hp with
      | false =>
        rcases errP_or PU with e | e <;> rw [e] at hpu <;> simp [Tryd.f25, hcp, hpu, asV]
      | true =>
        cases PU with
        | ok n =>
          obtain rfl : N = n := hpve
          by_cases hx : X = s
          · simp [Tryd.f25, hcp, hpu, asV, errP, PEnd.good, hat, hw1, bs_toList, hx, hX]
          · simp [Tryd.f25, hcp, hpu, asV, errP, PEnd.good, hat, hw1, bs_toList, hx, hX]
        | synt => simp [Tryd.f25, hcp, hpu, asV, errP, PEnd.good]
        | over => simp [Tryd.f25, hcp, hpu, asV, errP, PEnd.good]
    · cases hh
  · cases hh

end Go.Proofs.YtbnjijffkjcmcaaDoor.AL
namespace Go.Proofs.YtbnjijffkjcmcaaDoor.AL
open Go
attribute [local simp] qf cv qbin ibin sbin qun retPost rvOk ctV ctPost marksOk retV resAll resOf V.lt ltL V.ren renL V.exp V.exp1 cleanL V.clean closedL V.closed V.cells V.one V.tree
  loadV cellsAt isNC nilQ isSlD isIfD slNew ownRows ownCells V.isOwn slStore srcO qlook mlook mget mstr zval qnone qmake mput lmap isAggD placesOf fillV putCells lstore bound seqParts V.sh shL Blk.sh newV V.ok peqs peq srcRows qbytes byteSl appOk mmV mmR hidE V.fz fzL Blk.fz fzOk and_assoc
attribute [-simp] Int.not_le Int.not_lt Nat.not_le Nat.not_lt
/-! The chapter's examples. -/
def SAlive1 : List V → Option Res
  | [] => some ⟨.bool true, []⟩
  | _ => none
theorem ex_pp : pp [49, 48, 46, 50, 46, 48, 46, 48, 47, 49, 54] = some (4, 0, 167903232, 16) := pp_iff.2 ⟨.inr ⟨rfl, rfl, by decide⟩, by kernel_rfl, by kernel_rfl⟩
def M_f16 : Md := fun i => some #[]
@[simp] theorem M_f16_eq {i : Nat} : M_f16 i = (some #[]) := rfl
theorem runs_alive1 : ∀ args r, SAlive1 args = some r → Runs Tryd.prog 16 args r := by
  intro args r hh
  unfold SAlive1 at hh
  split at hh
  · cases hh
    have hT : ((((T0.add 29 SCut).add 21 STx).add 23 SPf).add 17 SAddrT).add 15 SCovers |>.ok Tryd.prog := Tab.add_ok (Tab.add_ok (Tab.add_ok (Tab.add_ok (Tab.add_ok (T0_ok _) runs_number_Cut) runs_number_Text) runs_number_Parse) runs_AddrText) runs_number_Covers
    have h1 : SCut [.int .u8 4, .agg [.int .u64 0, .int .u64 167772160], .int .i64 8] = some ⟨.tup [.agg [.int .u8 4, .int .u64 0, .int .u64 167772160, .int .i64 8], .int .i64 0], []⟩ := by kernel_rfl
    have h2 : STx [.agg [.int .u8 4, .int .u64 0, .int .u64 167772160, .int .i64 8]] = some ⟨.tup [.str ⟨#[49, 48, 46, 48, 46, 48, 46, 48, 47, 56]⟩, .int .i64 0], []⟩ := by
      have := tx_at (f := 4) (n := 8) (h := 0) (l := 167772160) (by decide) (by decide)
      rw [if_pos (by kernel_rfl)] at this
      exact this.trans (by
        have e : ppT (4 : Int).toNat 0 167772160 (8 : Int).toNat = [49, 48, 46, 48, 46, 48, 46, 48, 47, 56] := by kernel_rfl
        rw [e]; rfl)
    have h3 : SPf [.str ⟨#[49, 48, 46, 50, 46, 48, 46, 48, 47, 49, 54]⟩] = some ⟨.tup [.agg [.int .u8 4, .int .u64 0, .int .u64 167903232, .int .i64 16], .int .i64 0], []⟩ := by
      have := pf_at (l := [49, 48, 46, 50, 46, 48, 46, 48, 47, 49, 54]) (by decide)
      rw [ex_pp] at this
      exact this
    have h4 : SAddrT [.int .u8 6, .agg [.int .u64 2306139568115548160, .int .u64 1]] = some ⟨.tup [.str ⟨#[50, 48, 48, 49, 58, 100, 98, 56, 58, 58, 49]⟩, .int .i64 0], []⟩ := by
      have := addrT_at (f := 6) (h := 2306139568115548160) (l := 1) (by decide) (by decide)
      rw [if_pos (by kernel_rfl)] at this
      exact this.trans (by
        have e : addrT (6 : Int).toNat 2306139568115548160 1 = [50, 48, 48, 49, 58, 100, 98, 56, 58, 58, 49] := by kernel_rfl
        rw [e]; rfl)
    have h5 : SCovers [.agg [.int .u8 4, .int .u64 0, .int .u64 167772160, .int .i64 8], .agg [.int .u8 4, .int .u64 0, .int .u64 167903232, .int .i64 16]] = some ⟨.bool true, []⟩ := by kernel_rfl
    have h6 : SCovers [.agg [.int .u8 4, .int .u64 0, .int .u64 167903232, .int .i64 16], .agg [.int .u8 4, .int .u64 0, .int .u64 167772160, .int .i64 8]] = some ⟨.bool false, []⟩ := by kernel_rfl
    have b1 : ByteArray.toList ⟨#[49, 48, 46, 48, 46, 48, 46, 48, 47, 56]⟩ = [49, 48, 46, 48, 46, 48, 46, 48, 47, 56] := bs_toList [49, 48, 46, 48, 46, 48, 46, 48, 47, 56]
    have b2 : ByteArray.toList ⟨#[50, 48, 48, 49, 58, 100, 98, 56, 58, 58, 49]⟩ = [50, 48, 48, 49, 58, 100, 98, 56, 58, 58, 49] := bs_toList [50, 48, 48, 49, 58, 100, 98, 56, 58, 58, 49]
    refine Runs.of_body Tryd.func16 (by decide) rfl (by simp [Tryd.f16]) ?_
    refine W.seqE hT mixed M_f16 (by kernel_rfl) ?_
    simp [Tryd.f16]
    refine W.seqE hT mixed M_f16 (by kernel_rfl) ?_
    simp [Tryd.f16, h1]
    refine W.seqE hT mixed M_f16 (by kernel_rfl) ?_
    simp [Tryd.f16, h2]
    refine W.seqE hT mixed M_f16 (by kernel_rfl) ?_
    simp [Tryd.f16, h3]
    refine W.seqE hT mixed M_f16 (by kernel_rfl) ?_
    simp [Tryd.f16, h4]
    refine W.of_WE hT mixed M_f16 _ (by kernel_rfl) ?_
    simp [Tryd.f16, h5, h6, b1, b2]
  · cases hh

end Go.Proofs.YtbnjijffkjcmcaaDoor.AL
namespace Go.Proofs.YtbnjijffkjcmcaaDoor.AL
open Go
attribute [local simp] qf cv qbin ibin sbin qun retPost rvOk ctV ctPost marksOk retV resAll resOf V.lt ltL V.ren renL V.exp V.exp1 cleanL V.clean closedL V.closed V.cells V.one V.tree
  loadV cellsAt isNC nilQ isSlD isIfD slNew ownRows ownCells V.isOwn slStore srcO qlook mlook mget mstr zval qnone qmake mput lmap isAggD placesOf fillV putCells lstore bound seqParts V.sh shL Blk.sh newV V.ok peqs peq srcRows qbytes byteSl appOk mmV mmR hidE V.fz fzL Blk.fz fzOk and_assoc
attribute [-simp] Int.not_le Int.not_lt Nat.not_le Nat.not_lt
/-! The reference's numerals. -/
theorem hexD {d : Nat} (h : d < 16) : (⟨#[48, 49, 50, 51, 52, 53, 54, 55, 56, 57, 97, 98, 99, 100, 101, 102]⟩ : ByteArray).extract d (d + 1) = bs [dch d] := by
  have e : (⟨#[48, 49, 50, 51, 52, 53, 54, 55, 56, 57, 97, 98, 99, 100, 101, 102]⟩ : ByteArray) = bs [48, 49, 50, 51, 52, 53, 54, 55, 56, 57, 97, 98, 99, 100, 101, 102] := rfl
  rw [e, bs_extract]
  congr 1
  have : d = 0 ∨ d = 1 ∨ d = 2 ∨ d = 3 ∨ d = 4 ∨ d = 5 ∨ d = 6 ∨ d = 7 ∨ d = 8 ∨ d = 9 ∨ d = 10 ∨ d = 11 ∨ d = 12 ∨ d = 13 ∨ d = 14 ∨ d = 15 := by omega
  rcases this with rfl | rfl | rfl | rfl | rfl | rfl | rfl | rfl | rfl | rfl | rfl | rfl | rfl | rfl | rfl | rfl <;> rfl
noncomputable def SDg : List V → Option Res
  | [.int .u64 n, .int .u64 b] => ifC ((0 ≤ n ∧ n < 18446744073709551616) ∧ (b = 10 ∨ b = 16)) (some ⟨.str (bs (dgs b.toNat n.toNat)), []⟩)
  | _ => none
theorem dg_at {n b : Nat} (h : n < 18446744073709551616) (hb : b = 10 ∨ b = 16) : SDg [.int .u64 (n : Int), .int .u64 (b : Int)] = some ⟨.str (bs (dgs b n)), []⟩ := by
  simp only [SDg]
  rw [ifC_pos ⟨⟨by omega, by omega⟩, by omega⟩]
  rfl
def M_f53 : Md := fun i => some #[]
@[simp] theorem M_f53_eq {i : Nat} : M_f53 i = (some #[]) := rfl
theorem digits_ind {b : Nat} (hb : b = 10 ∨ b = 16) : ∀ N n : Nat, n < N → n < 18446744073709551616 → Runs Tryd.prog 53 [.int .u64 (n : Int), .int .u64 (b : Int)] ⟨.str (bs (dgs b n)), []⟩
  | 0, _, h, _ => absurd h (by omega)
  | N + 1, n, h, hn => by
    have hb0 : ¬ (b : Int) = 0 := by omega
    have hm : (n : Int).tmod b = ((n % b : Nat) : Int) := by
      rw [Int.tmod_eq_emod_of_nonneg (by omega)]; rfl
    have hq : IntKind.u64.wrap ((n : Int) / (b : Int)) = (n : Int) / (b : Int) := by
      have h0 : (n : Int) / (b : Int) = ((n / b : Nat) : Int) := (Int.natCast_ediv n b).symm
      have h1 : n / b ≤ n := Nat.div_le_self _ _
      rw [h0]
      generalize n / b = q at *
      exact wr_u64 (by omega) (by omega)
    have hb1 : ¬ b = 0 := by omega
    have hdl : (dgs b (n / b)).length ≤ 64 := dgs_len (by omega) 63 _ (by have := Nat.div_le_self n b; omega) (by
      have h1 := Nat.div_le_self n b
      have h2 : 16 ^ 16 ≤ b ^ 64 := by rcases hb with rfl | rfl <;> decide
      have h3 : (16 : Nat) ^ 16 = 18446744073709551616 := by decide
      show n / b < b ^ 64
      omega)
    have hz : ((⟨#[48, 49, 50, 51, 52, 53, 54, 55, 56, 57, 97, 98, 99, 100, 101, 102]⟩ : ByteArray).size) = 16 := rfl
    have hmb : n % b < b := Nat.mod_lt _ (by omega)
    have hx := hexD (d := n % b) (by omega)
    have hw : IntKind.u64.wrap (((n % b : Nat) : Int) + 1) = ((n % b + 1 : Nat) : Int) := by rw [wr_u64 (by omega) (by omega)]; omega
    by_cases hlt : n < b
    · rw [dgs_lt hlt]
      rw [Nat.mod_eq_of_lt hlt] at hm hx hw
      refine Runs.of_body Tryd.func53 (by decide) rfl (by simp [Tryd.f53]) ?_
      refine W.of_WE (T0_ok _) mixed M_f53 _ (by kernel_rfl) ?_
      generalize (⟨#[48, 49, 50, 51, 52, 53, 54, 55, 56, 57, 97, 98, 99, 100, 101, 102]⟩ : ByteArray) = HX at *
      simp [Tryd.f53, hb1, show ¬ b ≤ n by omega]
      rw [hm, hw]
      refine ⟨by omega, by omega, by omega, hx⟩
    · have hT := Tab.add_ok (T0_ok Tryd.prog) (oneS_ok (digits_ind hb N (n / b) (by have := Nat.div_lt_self (n := n) (k := b) (by omega) (by omega); omega) (by have := Nat.div_le_self n b; omega)))
      rw [dgs_step (by omega) hn (by omega)]
      refine Runs.of_body Tryd.func53 (by decide) rfl (by simp [Tryd.f53]) ?_
      refine W.of_WE hT mixed M_f53 _ (by kernel_rfl) ?_
      simp [Tryd.f53, hb1, hq, show b ≤ n by omega, oneS_self]
      rw [hm, hw]
      simp only [Int.toNat_natCast, hz, hx, bs_size, bs_append]
      exact ⟨by omega, by omega, by omega, by omega, trivial⟩
theorem runs_ref01_Digits : ∀ args r, SDg args = some r → Runs Tryd.prog 53 args r := by
  intro args r hh
  unfold SDg ifC at hh
  split at hh
  · rename_i n b
    split at hh
    · rename_i hin
      cases hh
      obtain ⟨⟨h0, h1⟩, hb⟩ := hin
      obtain ⟨n, rfl⟩ : ∃ k : Nat, n = k := ⟨n.toNat, by omega⟩
      obtain ⟨b, rfl⟩ : ∃ k : Nat, b = k := ⟨b.toNat, by omega⟩
      exact digits_ind (by omega) (n + 1) n (by omega) (by omega)
    · cases hh
  · cases hh

end Go.Proofs.YtbnjijffkjcmcaaDoor.AL
namespace Go.Proofs.YtbnjijffkjcmcaaDoor.AL
open Go
/-! What the reference's groups of bits are. -/
theorem fold_bits : ∀ (k : Nat) (M : Int), 0 ≤ M → ((List.range k).map fun j => M / 2 ^ (k - 1 - j) % 2).foldl (fun n x => n * 2 + x) 0 = M % 2 ^ k
  | 0, M, _ => by simp
  | k + 1, M, h => by
    rw [List.range_succ, List.map_append, List.foldl_append]
    have e : (List.range k).map (fun j => M / 2 ^ (k + 1 - 1 - j) % 2) = (List.range k).map (fun j => M / 2 / 2 ^ (k - 1 - j) % 2) := by
      refine List.map_congr_left fun j hj => ?_
      have hjk : j < k := List.mem_range.1 hj
      rw [show k + 1 - 1 - j = 1 + (k - 1 - j) by omega, ipow_add, ← Int.ediv_ediv_of_nonneg (by decide)]
      rfl
    rw [e, fold_bits k (M / 2) (by omega)]
    simp only [List.map_cons, List.map_nil, List.foldl_cons, List.foldl_nil, Nat.add_sub_cancel, Nat.sub_self, Int.pow_zero, Int.ediv_one]
    rw [ipow_succ, Int.mul_comm (2 ^ k) 2]
    have hp := ipow_pos k
    have h1 := Int.emod_emod_of_dvd M (Int.dvd_mul_right 2 (2 ^ k))
    have h2 : M % (2 * 2 ^ k) = M - 2 * 2 ^ k * (M / (2 * 2 ^ k)) := by have := Int.emod_add_mul_ediv M (2 * 2 ^ k); omega
    have h3 : M / 2 % 2 ^ k = M / 2 - 2 ^ k * (M / 2 / 2 ^ k) := by have := Int.emod_add_mul_ediv (M / 2) (2 ^ k); omega
    rw [h2, h3, Int.ediv_ediv_of_nonneg (by decide)]
    generalize M / (2 * 2 ^ k) = Q
    rw [Int.mul_assoc]
    generalize (2 : Int) ^ k * Q = R
    omega
theorem rg_slice {w i k : Nat} (f : Nat → Int) (h : i + k ≤ w) : ((rg w f).drop i).take k = rg k fun j => f (i + j) := by
  refine List.ext_getElem? fun j => ?_
  unfold rg
  by_cases hj : j < k
  · rw [List.getElem?_take, if_pos hj, List.getElem?_drop, List.getElem?_map, List.getElem?_map, List.getElem?_range (by omega), List.getElem?_range hj]
    rfl
  · rw [List.getElem?_take, if_neg hj, List.getElem?_eq_none (by simp; omega)]
theorem join_snoc (sep q : List UInt8) : ∀ (ps : List (List UInt8)), ps ≠ [] → Lib.join (ps ++ [q]) sep = Lib.join ps sep ++ sep ++ q
  | [], h => absurd rfl h
  | [p], _ => by
    rw [List.singleton_append, join_cons2]; simp [Lib.join]
  | p :: p2 :: ps, _ => by
    rw [List.cons_append, List.cons_append, join_cons2, join_cons2]
    have := join_snoc sep q (p2 :: ps) (by simp)
    rw [List.cons_append] at this
    rw [this]
    simp [List.append_assoc]
theorem hj_snoc (L : List Nat) (k : Nat) (h : k < L.length) : hj (L.take (k + 1)) = if k = 0 then dgs 16 L[k] else hj (L.take k) ++ 58 :: dgs 16 L[k] := by
  unfold hj
  rw [List.take_succ_eq_append_getElem h, List.map_append]
  split
  · rename_i h0; subst h0; simp [Lib.join]
  · rename_i h0
    rw [List.map_cons, List.map_nil, join_snoc _ _ _ (by
      intro e
      rw [List.map_eq_nil_iff, List.take_eq_nil_iff] at e
      rcases e with e | e
      · omega
      · subst e; simp at h)]
    simp
end Go.Proofs.YtbnjijffkjcmcaaDoor.AL
namespace Go.Proofs.YtbnjijffkjcmcaaDoor.AL
open Go
attribute [local simp] qf cv qbin ibin sbin qun retPost rvOk ctV ctPost marksOk retV resAll resOf V.lt ltL V.ren renL V.exp V.exp1 cleanL V.clean closedL V.closed V.cells V.one V.tree
  loadV cellsAt isNC nilQ isSlD isIfD slNew ownRows ownCells V.isOwn slStore srcO qlook mlook mget mstr zval qnone qmake mput lmap isAggD placesOf fillV putCells lstore bound seqParts V.sh shL Blk.sh newV V.ok peqs peq srcRows qbytes byteSl appOk mmV mmR hidE V.fz fzL Blk.fz fzOk and_assoc
attribute [-simp] Int.not_le Int.not_lt Nat.not_le Nat.not_lt
/-! The reference's groups of bits; its groups with colons. -/
def grpI (l : List Int) : Int := l.foldl (fun n x => n * 2 + x) 0
theorem grpI_bd : ∀ (l : List Int), (∀ b ∈ l, b = 0 ∨ b = 1) → ∀ n : Int, 0 ≤ n → 0 ≤ l.foldl (fun n x => n * 2 + x) n ∧ l.foldl (fun n x => n * 2 + x) n < (n + 1) * 2 ^ l.length
  | [], _, n, hn => by simp; omega
  | x :: l, h, n, hn => by
    have hx := h x (by simp)
    have := grpI_bd l (fun b hb => h b (by simp [hb])) (n * 2 + x) (by omega)
    rw [List.foldl_cons, List.length_cons, ipow_succ]
    refine ⟨this.1, Int.lt_of_lt_of_le this.2 ?_⟩
    rw [Int.mul_comm (2 ^ l.length) 2, ← Int.mul_assoc]
    exact Int.mul_le_mul_of_nonneg_right (by omega) (Int.le_of_lt (ipow_pos _))
theorem grpI_take {l : List Int} {k : Nat} (hb : ∀ b ∈ l, b = 0 ∨ b = 1) (hl : l.length ≤ 16) : 0 ≤ grpI (l.take k) ∧ grpI (l.take k) < 65536 := by
  have := grpI_bd (l.take k) (fun b h => hb b (List.mem_of_mem_take h)) 0 (by omega)
  refine ⟨this.1, Int.lt_of_lt_of_le this.2 ?_⟩
  have h1 : (l.take k).length ≤ 16 := by simp; omega
  have h2 := Nat.pow_le_pow_right (n := 2) (by omega) h1
  have h3 : ((2 ^ (l.take k).length : Nat) : Int) = 2 ^ (l.take k).length := ipow _
  omega
theorem grpI_snoc {l : List Int} {k : Nat} (h : k < l.length) : grpI (l.take (k + 1)) = grpI (l.take k) * 2 + l[k] := by
  unfold grpI
  rw [List.take_succ_eq_append_getElem h, List.foldl_append]; rfl
noncomputable def SGrp : List V → Option Res
  | [.rd 1 rows] => match intsOf rows with
    | some l => ifC (bits01 l = true ∧ l.length ≤ 16) (some ⟨.int .u64 (grpI l), []⟩)
    | none => none
  | _ => none
theorem intsOf_eq' : ∀ {rows : List (List V)} {l : List Int}, intsOf rows = some l → rows = l.map fun x => [.int .i64 x]
  | [], l, h => by cases h; rfl
  | [.int .i64 x] :: rows, l, h => by
    simp only [intsOf, Option.map_eq_some_iff] at h
    obtain ⟨m, hm, rfl⟩ := h
    rw [intsOf_eq' hm]; rfl
def M_f54 : Md := fun i => some #[]
@[simp] theorem M_f54_eq {i : Nat} : M_f54 i = (some #[]) := rfl
theorem runs_ref01_group : ∀ args r, SGrp args = some r → Runs Tryd.prog 54 args r := by
  intro args r hh
  unfold SGrp at hh
  split at hh
  · rename_i rows
    split at hh
    · rename_i l hl
      obtain rfl : rows = l.map fun x => [.int .i64 x] := intsOf_eq' hl
      unfold ifC at hh
      split at hh
      · rename_i hin
        cases hh
        obtain ⟨hb, hlen⟩ := hin
        rw [bits01_iff] at hb
        have hln : (l.map fun x => [V.int .i64 x]).length = l.length := by simp
        have hgt : ∀ k, (h : k < l.length) → (l.map fun x => [V.int .i64 x])[k]? = some [.int .i64 l[k]] := fun k h => by rw [List.getElem?_map, List.getElem?_eq_getElem h]; rfl
        generalize (l.map fun x => [V.int .i64 x]) = RW at *
        refine Runs.of_body Tryd.func54 (by decide) rfl (by simp [Tryd.f54]) ?_
        refine W.seqE (T0_ok _) mixed M_f54 (by kernel_rfl) ?_
        simp [Tryd.f54]
        refine W.seqE (T0_ok _) mixed M_f54 (by kernel_rfl) ?_
        simp
        refine W.cut True [(3, .int .u64 (grpI l))] [] 20 ?_ ?_
        · refine W.seqE (T0_ok _) mixed M_f54 (by kernel_rfl) ?_
          simp [Tryd.f54]
          refine W.block (W.for (fun _ => True) (fun k => [(0, .rd 1 RW), (3, .int .u64 (grpI (l.take k))), (4, .int .i64 k)]) (fun _ => []) 20 l.length trivial ?_ ?_)
          · simp [grpI]
          · intro k hk _
            refine W.of_WE (T0_ok _) mixed M_f54 _ (by kernel_rfl) ?_
            by_cases hlt : k < l.length
            · have h1 := grpI_take (k := k) hb hlen
              have h2 := grpI_take (k := k + 1) hb hlen
              have h3 := grpI_snoc hlt
              have h4 := hb l[k] (List.getElem_mem hlt)
              have h5 := hgt k hlt
              obtain ⟨h5a, h5b⟩ := List.getElem?_eq_some_iff.1 h5
              generalize l[k] = x at *
              have w1 : IntKind.i64.wrap ((k : Int) + 1) = ((k + 1 : Nat) : Int) := by rw [wr_i64 (by omega) (by omega)]; omega
              have w2 : IntKind.u64.wrap (grpI (l.take k) * 2) = grpI (l.take k) * 2 := wr_u64 (by omega) (by omega)
              have w3 : IntKind.u64.wrap x = x := wr_u64 (by omega) (by omega)
              have w4 : IntKind.u64.wrap (grpI (l.take k) * 2 + x) = grpI (l.take (k + 1)) := by rw [h3, wr_u64 (by omega) (by omega)]
              simp [hln, hlt, h5b, w1, w2, w3, w4, List.getD_eq_getElem?_getD]
            · obtain rfl : k = l.length := by omega
              simp [hln]
        intro _
        refine W.of_WE (T0_ok _) mixed M_f54 _ (by kernel_rfl) ?_
        simp [Tryd.f54]
      · cases hh
    · cases hh
  · cases hh
def M_f55 : Md := fun i => some #[]
@[simp] theorem M_f55_eq {i : Nat} : M_f55 i = (some #[]) := rfl
theorem runs_ref01_colons : ∀ args r, SJnd args = some r → Runs Tryd.prog 55 args r := by
  intro args r hh
  unfold SJnd at hh
  split at hh
  · rename_i rows
    split at hh
    · rename_i L hL
      obtain rfl : rows = uRows L := parse_eq uOf_eq hL
      unfold ifC at hh
      split at hh
      · rename_i hin
        cases hh
        obtain ⟨hx, hlen⟩ := hin
        have hT : (T0.add 53 SDg).ok Tryd.prog := Tab.add_ok (T0_ok _) runs_ref01_Digits
        have hln : (uRows L).length = L.length := by simp [uRows]
        have hgt : ∀ k, (h : k < L.length) → (uRows L)[k]? = some [.int .u64 (L[k] : Int)] := fun k h => by unfold uRows; rw [List.getElem?_map, List.getElem?_eq_getElem h]; rfl
        generalize uRows L = RW at *
        refine Runs.of_body Tryd.func55 (by decide) rfl (by simp [Tryd.f55]) ?_
        refine W.seqE hT mixed M_f55 (by kernel_rfl) ?_
        simp [Tryd.f55]
        refine W.seqE hT mixed M_f55 (by kernel_rfl) ?_
        simp
        refine W.cut True [(3, .str (bs (hj L)))] [] 23 ?_ ?_
        · refine W.seqE hT mixed M_f55 (by kernel_rfl) ?_
          simp [Tryd.f55]
          refine W.block (W.for (fun _ => True) (fun k => [(0, .rd 1 RW), (3, .str (bs (hj (L.take k)))), (4, .int .i64 k)]) (fun _ => []) 23 L.length trivial ?_ ?_)
          · simp [hj, bs, Lib.join]
          · intro k hk _
            refine W.of_WE hT mixed M_f55 _ (by kernel_rfl) ?_
            by_cases hlt : k < L.length
            · have h1 : (hj (L.take k)).length ≤ 40 := by
                have := hj_len (L.take k) (fun x h => hx x (List.mem_of_mem_take h))
                have h2 : (L.take k).length ≤ 8 := by simp; omega
                omega
              have h3 := hj_snoc L k hlt
              have h5 := hgt k hlt
              have h6 := hx L[k] (List.getElem_mem hlt)
              have h7 := dg_at (n := L[k]) (b := 16) (by omega) (.inr rfl)
              rw [show ((16 : Nat) : Int) = 16 from rfl] at h7
              have h8 : (dgs 16 L[k]).length ≤ 4 := dgs_len (by omega) 3 _ (by omega) (by omega)
              obtain ⟨h5a, h5b⟩ := List.getElem?_eq_some_iff.1 h5
              generalize L[k] = x at *
              have w1 : IntKind.i64.wrap ((k : Int) + 1) = ((k + 1 : Nat) : Int) := by rw [wr_i64 (by omega) (by omega)]; omega
              by_cases hk0 : k = 0
              · subst hk0
                rw [if_pos rfl] at h3
                have e1 : bs (hj []) ++ bs (dgs 16 x) = bs (hj (L.take 1)) := by rw [bs_append, h3]; simp [hj, Lib.join]
                have z1 : (bs (hj [])).size = 0 := rfl
                have z3 : (bs (dgs 16 x)).size ≤ 4 := by rw [bs_size]; omega
                simp [hln, hlt, h5b, h7, show IntKind.i64.wrap 1 = 1 from rfl, e1, z1, List.getD_eq_getElem?_getD]
                trace_state
                omega
              · rw [if_neg hk0] at h3
                have e1 : bs (hj (L.take k)) ++ (⟨#[58]⟩ : ByteArray) = bs (hj (L.take k) ++ [58]) := bs_append _ [58]
                have e2 : bs (hj (L.take k) ++ [58]) ++ bs (dgs 16 x) = bs (hj (L.take (k + 1))) := by rw [bs_append, h3]; simp
                have z1 : (bs (hj (L.take k))).size ≤ 40 := by rw [bs_size]; omega
                have z2 : (bs (hj (L.take k) ++ [58])).size ≤ 41 := by rw [bs_size]; simp; omega
                have z3 : (bs (dgs 16 x)).size ≤ 4 := by rw [bs_size]; omega
                have z4 : (⟨#[58]⟩ : ByteArray).size = 1 := rfl
                simp [hln, hlt, h5b, h7, w1, e1, e2, z4, show 0 < k by omega, List.getD_eq_getElem?_getD]
                trace_state
                omega
            · obtain rfl : k = L.length := by omega
              simp [hln]
        intro _
        refine W.of_WE hT mixed M_f55 _ (by kernel_rfl) ?_
        simp [Tryd.f55]
      · cases hh
    · cases hh
  · cases hh

end Go.Proofs.YtbnjijffkjcmcaaDoor.AL
