import Derived.Test.YtpcblologcindaaDoorS02lW5
import Derived.Test.YtpcblologcindaaDoorS02lAL4
import Derived.LaidMore
import Derived.Stop.Joined
/- What single functions compute: a part of the proof; no conditions. -/
set_option linter.unusedVariables false
set_option linter.unusedSimpArgs false
set_option maxRecDepth 100000
set_option linter.unusedSectionVars false
namespace Go.Proofs.YtpcblologcindaaDoor.AL
open Go
attribute [local simp] qf cv qbin ibin sbin qun retPost rvOk ctV ctPost marksOk retV resAll resOf V.lt ltL V.ren renL V.exp cleanL V.clean closedL V.closed V.cells V.one V.tree
  loadV cellsAt slNew ownRows ownCells V.isOwn slStore srcO qlook mlook mget mstr zval qnone qmake mput lmap isAggD placesOf fillV putCells lstore bound seqParts V.sh shL Blk.sh newV V.ok peqs peq srcRows appOk mmV mmR hidE V.fz fzL Blk.fz fzOk and_assoc
attribute [-simp] Int.not_le Int.not_lt Nat.not_le Nat.not_lt
theorem cov_eq {f h1 l1 h2 l2 h l : Int} (hA : inA h l) (hc : cAddr f h l = true) : SCovd [.int .u8 f, .rd 4 (wRows f (numA (h1, l1)) (numA (h2, l2)) (widN f) 0), .agg [.int .u64 h, .int .u64 l]] = some ⟨.int .i64 (if numA (h1, l1) ≤ numA (h, l) ∧ numA (h, l) ≤ numA (h2, l2) then 1 else 0), []⟩ := by
  obtain ⟨k1, k2⟩ := countP_rows (a := numA (h1, l1)) (b := numA (h2, l2)) hA hc
  have hlen := wRows_254 (f := f) (a := numA (h1, l1)) (b := numA (h2, l2))
  rw [wRows_map, List.length_map] at hlen
  rw [wRows_map]
  simp only [SCovd, pfsOf_map]
  rw [if_pos ⟨k2, hA, by omega⟩, k1]
  split <;> rfl
def M_f3 : Md := fun i => some #[]
@[simp] theorem M_f3_eq {i : Nat} : M_f3 i = (some #[]) := rfl
theorem spanExact_runs : ∀ As, ArgsV Tryd.prog Tryd.f3.params.toList [[.int .u8], [.int .u64, .int .u64, .int .u64, .int .u64], [.int .u64, .int .u64]] As → Runs Tryd.prog 3 As ⟨.bool true, []⟩ := by
  intro As h
  simp [Tryd.f3, ArgsV, LSh, VSh, argV] at h
  obtain ⟨_, _, rfl, ⟨_, rfl, f, rfl, hf⟩, _, _, rfl, ⟨_, _, rfl, ⟨h1, rfl, hh1⟩, _, _, rfl, ⟨l1, rfl, hl1⟩, _, _, rfl, ⟨h2, rfl, hh2⟩, _, rfl, l2, rfl, hl2⟩, _, rfl, _, _, rfl, ⟨ah, rfl, hah⟩, _, rfl, al, rfl, hal⟩ := h
  have i1 : inA h1 l1 := ⟨(u64_rng hh1).1, (u64_rng hh1).2, (u64_rng hl1).1, (u64_rng hl1).2⟩
  have i2 : inA h2 l2 := ⟨(u64_rng hh2).1, (u64_rng hh2).2, (u64_rng hl2).1, (u64_rng hl2).2⟩
  have ia : inA ah al := ⟨(u64_rng hah).1, (u64_rng hah).2, (u64_rng hal).1, (u64_rng hal).2⟩
  let T := (((((T0.add 14 SAlive2).add 15 SPre).add 16 SChkS).add 17 SAddr).add 18 SCompare).add 19 SCovd
  have hT : T.ok Tryd.prog := Tab.add_ok (Tab.add_ok (Tab.add_ok (Tab.add_ok (Tab.add_ok (Tab.add_ok (T0_ok _) runs_alive2) runs_span_Prefixes) runs_span_Check) runs_number_CheckAddr) runs_number_Compare) runs_covered
  have hal2 : SAlive2 [] = some ⟨.bool true, []⟩ := rfl
  refine Runs.of_body Tryd.func3 (by decide) rfl (by simp [Tryd.f3]) ?_
  refine W.seqE hT mixed M_f3 (by kernel_rfl) ?_
  simp [Tryd.f3]
  refine W.seqE hT mixed M_f3 (by kernel_rfl) ?_
  simp [Tryd.f3, T, hal2]
  by_cases hc : chkS f h1 l1 h2 l2 = 0
  · have hpre : SPre [.int .u8 f, .agg [.int .u64 h1, .int .u64 l1, .int .u64 h2, .int .u64 l2]] = some ⟨.tup [.own 0, .int .i64 0], [.sl 4 40 (wRows f (numA (h1, l1)) (numA (h2, l2)) (widN f) 0)]⟩ := by
      simp only [SPre]; rw [if_pos ⟨i1, i2⟩, if_pos hc]
    have hchk : SChkS [.int .u8 f, .agg [.int .u64 h1, .int .u64 l1, .int .u64 h2, .int .u64 l2]] = some ⟨.int .i64 0, []⟩ := by
      simp only [SChkS, hc]
    obtain ⟨c1, c2, c3⟩ := chkS_zero hc
    have hle := (cmpA_le i1 i2).1 c3
    have hlen := wRows_254 (f := f) (a := numA (h1, l1)) (b := numA (h2, l2))
    have k1 := cov_eq (h1 := h1) (l1 := l1) (h2 := h2) (l2 := l2) i1 c1
    have k2 := cov_eq (h1 := h1) (l1 := l1) (h2 := h2) (l2 := l2) i2 c2
    have k3 := fun hca => cov_eq (h1 := h1) (l1 := l1) (h2 := h2) (l2 := l2) (f := f) ia hca
    rw [if_pos ⟨Int.le_refl _, hle⟩] at k1
    rw [if_pos ⟨hle, Int.le_refl _⟩] at k2
    have hcov : ∀ k, (cmpA h1 l1 ah al ≤ 0 ∧ cmpA ah al h2 l2 ≤ 0 ↔ k) → (numA (h1, l1) ≤ numA (ah, al) ∧ numA (ah, al) ≤ numA (h2, l2) ↔ k) := by
      intro k hk
      rw [← hk, cmpA_le i1 ia, cmpA_le ia i2]
    generalize hR : wRows f (numA (h1, l1)) (numA (h2, l2)) (widN f) 0 = R at *
    refine W.cut True [(0, .int .u8 f), (4, .ptr 0 0), (5, .ptr 1 0), (7, .bool true), (8, .own 2), (9, .int .i64 0)] [.box 26 [.int .u64 h1, .int .u64 l1, .int .u64 h2, .int .u64 l2], .box 24 [.int .u64 ah, .int .u64 al], .sl 4 40 R] 96 ?_ ?_
    · refine W.of_WE hT mixed M_f3 _ (by kernel_rfl) ?_
      simp [Tryd.f3, T, hpre]
    intro _
    refine W.wk (Wk.freeze 2 (.sl 4 40 R) (by simp) (by simp [← hR, wRows_map])) ?_
    refine W.of_WE hT mixed M_f3 _ (by kernel_rfl) ?_
    have hl254 : ¬ (254 : Int) < R.length := by omega
    have hl254' : (R.length : Int) ≤ 254 := by omega
    cases hca : cAddr f ah al
    · simp [Tryd.f3, T, hchk, SAddr, hca, hl254, hl254']
    · have k3 := k3 hca
      by_cases q1 : cmpA h1 l1 ah al ≤ 0
      · by_cases q2 : cmpA ah al h2 l2 ≤ 0
        · rw [if_pos ((hcov _ Iff.rfl).2 ⟨q1, q2⟩)] at k3
          simp [Tryd.f3, T, hchk, SAddr, hca, hl254, hl254', SCompare, q1, q2, k1, k2, k3]
        · rw [if_neg (fun g => q2 ((hcov _ Iff.rfl).1 g).2)] at k3
          simp [Tryd.f3, T, hchk, SAddr, hca, hl254, hl254', SCompare, q1, q2, k1, k2, k3]
      · rw [if_neg (fun g => q1 ((hcov _ Iff.rfl).1 g).1)] at k3
        simp [Tryd.f3, T, hchk, SAddr, hca, hl254, hl254', SCompare, q1, k1, k2, k3]
  · have hpre : SPre [.int .u8 f, .agg [.int .u64 h1, .int .u64 l1, .int .u64 h2, .int .u64 l2]] = some ⟨.tup [.nils, .int .i64 (chkS f h1 l1 h2 l2)], []⟩ := by
      simp only [SPre]; rw [if_pos ⟨i1, i2⟩, if_neg hc]
    have hchk : SChkS [.int .u8 f, .agg [.int .u64 h1, .int .u64 l1, .int .u64 h2, .int .u64 l2]] = some ⟨.int .i64 (chkS f h1 l1 h2 l2), []⟩ := by
      simp only [SChkS]
    refine W.of_WE hT mixed M_f3 _ (by kernel_rfl) ?_
    simp [Tryd.f3, T, hpre, hchk, hc]

end Go.Proofs.YtpcblologcindaaDoor.AL
namespace Go.Proofs.YtpcblologcindaaDoor.AL
open Go
/-! No gaps, no halves. -/
def hlf (x y : Int × Nat) : Prop := x.2 = y.2 → x.1 / 2 ^ (x.2 + 1) ≠ y.1 / 2 ^ (x.2 + 1)
theorem wthN_hlf {a b : Int} : ∀ {k : Nat} {N : Int}, (∃ q : Int, N = q * 2 ^ k) → (wthN a b k N).Pairwise hlf
  | 0, N, hN => by
    rw [wthN]
    split <;> simp
  | k + 1, N, hN => by
    have e := ipow_succ k
    have hp := ipow_pos k
    by_cases hw : a ≤ N ∧ N + 2 ^ (k + 1) - 1 ≤ b
    · rw [wthN_in hw.1 hw.2]; simp
    · rw [wthN_halves hw]
      obtain ⟨q, hq⟩ := hN
      have h1 : ∃ q : Int, N = q * 2 ^ k := ⟨q * 2, by rw [hq, e, Int.mul_assoc, Int.mul_comm 2]⟩
      have h2 : ∃ q : Int, N + 2 ^ k = q * 2 ^ k := ⟨q * 2 + 1, by rw [hq, e, Int.add_mul, Int.one_mul, Int.mul_assoc, Int.mul_comm 2]⟩
      refine List.pairwise_append.2 ⟨wthN_hlf h1, wthN_hlf h2, fun x hx y hy hxy hc => ?_⟩
      obtain ⟨_, x1, x2, x3, x4, x5⟩ := wthN_blk h1 x hx
      obtain ⟨_, y1, y2, y3, y4, y5⟩ := wthN_blk h2 y hy
      have px := ipow_pos x.2
      rcases Nat.lt_or_ge x.2 k with hlt | hge
      · obtain ⟨r, hr⟩ := h2
        have e2 : (2 : Int) ^ k = 2 ^ (k - (x.2 + 1)) * 2 ^ (x.2 + 1) := by rw [← ipow_add]; congr 1; omega
        have hm : N + 2 ^ k = (r * 2 ^ (k - (x.2 + 1))) * 2 ^ (x.2 + 1) := by rw [hr, Int.mul_assoc, ← e2]
        have pp := ipow_pos (x.2 + 1)
        have c1 : x.1 / 2 ^ (x.2 + 1) < r * 2 ^ (k - (x.2 + 1)) := by
          refine Int.ediv_lt_of_lt_mul pp ?_
          rw [← hm]; omega
        have c2 : r * 2 ^ (k - (x.2 + 1)) ≤ y.1 / 2 ^ (x.2 + 1) := by
          refine Int.le_ediv_of_mul_le pp ?_
          rw [← hm]; exact y1
        omega
      · have ex : x.2 = k := by omega
        rw [← hxy, ex] at y2 y5
        rw [ex] at x2 x5
        exact hw ⟨by omega, by omega⟩
/-- Where a walk over the list stands. -/
structure LI (f hi : Int) (L : List (Int × Nat)) (k : Nat) : Prop where
  hk : k < L.length
  ia : inA (toA L[k].1).1 (toA L[k].1).2
  ca : cAddr f (toA L[k].1).1 (toA L[k].1).2 = true
  le : L[k].1 ≤ hi
  dr : L.drop k = wthN L[k].1 hi (widN f) 0
theorem LI_mk {f h2 l2 x y : Int} {L : List (Int × Nat)} {k : Nat} (i2 : inA h2 l2) (hA : inA x y) (hc : cAddr f x y = true) (hle : numA (x, y) ≤ numA (h2, l2)) (hd : L.drop k = wthN (numA (x, y)) (numA (h2, l2)) (widN f) 0) :
    LI f (numA (h2, l2)) L k ∧ (∀ h : k < L.length, L[k].1 = numA (x, y)) := by
  obtain ⟨g1, g2, g3, g4⟩ := fst_step hA i2 hc hle
  rw [hd.symm] at g4
  have hk : k < L.length := by
    rcases Nat.lt_or_ge k L.length with h | h
    · exact h
    · rw [List.drop_of_length_le h] at g4; cases g4
  have e : L[k].1 = numA (x, y) := by
    rw [List.drop_eq_getElem_cons hk] at g4
    simp only [List.cons.injEq] at g4
    rw [g4.1]
  have et : toA L[k].1 = (x, y) := by rw [e, toA_numA hA.2.2.1 hA.2.2.2]
  refine ⟨⟨hk, by rw [et]; exact hA, by rw [et]; exact hc, by rw [e]; exact hle, by rw [e]; exact hd⟩, fun _ => e⟩
theorem LI_step {f h2 l2 : Int} {L : List (Int × Nat)} {k : Nat} (i2 : inA h2 l2) (c2 : cAddr f h2 l2 = true) (hk : k < L.length) (h : LI f (numA (h2, l2)) L k) :
    L[k].2 ≤ widN f ∧ (∃ q : Int, L[k].1 = q * 2 ^ L[k].2) ∧ L[k].1 + 2 ^ L[k].2 - 1 ≤ numA (h2, l2) ∧
      ((k + 1 = L.length ∧ L[k].1 + 2 ^ L[k].2 - 1 = numA (h2, l2)) ∨ (k + 1 < L.length ∧ L[k].1 + 2 ^ L[k].2 ≤ numA (h2, l2) ∧ LI f (numA (h2, l2)) L (k + 1) ∧ ∀ h1 : k + 1 < L.length, L[k + 1].1 = L[k].1 + 2 ^ L[k].2)) := by
  obtain ⟨_, ia, ca, le, dr⟩ := h
  have hn : numA ((toA L[k].1).1, (toA L[k].1).2) = L[k].1 := numA_toA _
  have hf := cAddr_46 ca
  have hw := widN_le f
  have hb := wthN_blk (a := L[k].1) (b := numA (h2, l2)) (k := widN f) (N := 0) ⟨0, by simp⟩ L[k] (by rw [← dr, List.drop_eq_getElem_cons hk]; exact List.mem_cons_self)
  obtain ⟨b1, b2, b3, b4, b5, b6⟩ := hb
  refine ⟨b4, b1, b6, ?_⟩
  obtain ⟨g1, g2, g3, g4⟩ := fst_step ia i2 ca (by rw [hn]; exact le)
  rw [hn, ← dr, List.drop_eq_getElem_cons hk] at g4
  simp only [List.cons.injEq] at g4
  obtain ⟨e1, e2⟩ := g4
  have e3 : L[k].2 = widN f - fstN f (toA L[k].1).1 (toA L[k].1).2 h2 l2 := by rw [e1]
  rw [← e3] at e2
  have hpj := ipow_pos L[k].2
  rcases Int.lt_or_le (numA (h2, l2)) (L[k].1 + 2 ^ L[k].2) with hlt | hle
  · left
    rw [wthN_empty hlt] at e2
    have := congrArg List.length e2
    simp at this
    exact ⟨by omega, by omega⟩
  · right
    have hlt2 := numA_lt i2 c2
    have h128 : (2 : Int) ^ widN f ≤ 340282366920938463463374607431768211456 := by rcases hf with rfl | rfl <;> decide
    have hr : inA (toA (L[k].1 + 2 ^ L[k].2)).1 (toA (L[k].1 + 2 ^ L[k].2)).2 := toA_rng (by omega) (by omega)
    have hn2 : numA ((toA (L[k].1 + 2 ^ L[k].2)).1, (toA (L[k].1 + 2 ^ L[k].2)).2) = L[k].1 + 2 ^ L[k].2 := numA_toA _
    have hc2 : cAddr f (toA (L[k].1 + 2 ^ L[k].2)).1 (toA (L[k].1 + 2 ^ L[k].2)).2 = true := cAddr_lt hf hr (by rw [hn2]; omega)
    have := LI_mk (L := L) (k := k + 1) i2 hr hc2 (by rw [hn2]; exact hle) (by rw [hn2]; exact e2)
    refine ⟨this.1.hk, hle, this.1, fun h1 => ?_⟩
    rw [this.2 h1, hn2]
end Go.Proofs.YtpcblologcindaaDoor.AL
namespace Go.Proofs.YtpcblologcindaaDoor.AL
open Go
attribute [local simp] qf cv qbin ibin sbin qun retPost rvOk ctV ctPost marksOk retV resAll resOf V.lt ltL V.ren renL V.exp cleanL V.clean closedL V.closed V.cells V.one V.tree
  loadV cellsAt slNew ownRows ownCells V.isOwn slStore srcO qlook mlook mget mstr zval qnone qmake mput lmap isAggD placesOf fillV putCells lstore bound seqParts V.sh shL Blk.sh newV V.ok peqs peq srcRows appOk mmV mmR hidE V.fz fzL Blk.fz fzOk and_assoc
attribute [-simp] Int.not_le Int.not_lt Nat.not_le Nat.not_lt
theorem wRow_at {f lo hi : Int} {k : Nat} {L : List (Int × Nat)} (hL : L = wthN lo hi (widN f) 0) (hk : k < L.length) : (wRows f lo hi (widN f) 0)[k]? = some [.int .u8 f, .int .u64 (toA L[k].1).1, .int .u64 (toA L[k].1).2, .int .i64 ((widN f : Int) - L[k].2)] := by
  unfold wRows
  rw [← hL]
  simp [hk, rowW, PF.row]
theorem wRow_d {f lo hi : Int} {k : Nat} {L : List (Int × Nat)} (hL : L = wthN lo hi (widN f) 0) (hk : k < L.length) : (wRows f lo hi (widN f) 0).getD k [] = [.int .u8 f, .int .u64 (toA L[k].1).1, .int .u64 (toA L[k].1).2, .int .i64 ((widN f : Int) - L[k].2)] := by
  rw [List.getD_eq_getElem?_getD, wRow_at hL hk]; rfl
def atK (L : List (Int × Nat)) (k : Nat) : List V := [.int .u64 (toA (L.getD k (0, 0)).1).1, .int .u64 (toA (L.getD k (0, 0)).1).2]
def M_f4 : Md := fun i => if i = 14 then some #[0, 1, 3, 7, 7, 31, 63, 127, 7, 7, 519, 1799, 3847, 7943, 16383, 32767, 65535, 131071, 131071, 524287, 1048575, 2097151, 4194303, 8388607] else if i = 15 then some #[0, 0, 0, 6, 14, 30, 0, 0, 192, 448, 960, 1984, 4095, 8191, 16383, 16383, 0, 98303, 262143] else if i = 16 then some #[0, 1, 3, 7, 7, 7, 39, 119, 247, 511, 1023] else some #[]
@[simp] theorem M_f4_eq {i : Nat} : M_f4 i = (if i = 14 then some #[0, 1, 3, 7, 7, 31, 63, 127, 7, 7, 519, 1799, 3847, 7943, 16383, 32767, 65535, 131071, 131071, 524287, 1048575, 2097151, 4194303, 8388607] else if i = 15 then some #[0, 0, 0, 6, 14, 30, 0, 0, 192, 448, 960, 1984, 4095, 8191, 16383, 16383, 0, 98303, 262143] else if i = 16 then some #[0, 1, 3, 7, 7, 7, 39, 119, 247, 511, 1023] else some #[]) := rfl
theorem spanLeast_runs : ∀ As, ArgsV Tryd.prog Tryd.f4.params.toList [[.int .u8], [.int .u64, .int .u64, .int .u64, .int .u64]] As → Runs Tryd.prog 4 As ⟨.bool true, []⟩ := by
  intro As h
  simp [Tryd.f4, ArgsV, LSh, VSh, argV] at h
  obtain ⟨_, _, rfl, ⟨_, rfl, f, rfl, hf⟩, _, rfl, _, _, rfl, ⟨h1, rfl, hh1⟩, _, _, rfl, ⟨l1, rfl, hl1⟩, _, _, rfl, ⟨h2, rfl, hh2⟩, _, rfl, l2, rfl, hl2⟩ := h
  have i1 : inA h1 l1 := ⟨(u64_rng hh1).1, (u64_rng hh1).2, (u64_rng hl1).1, (u64_rng hl1).2⟩
  have i2 : inA h2 l2 := ⟨(u64_rng hh2).1, (u64_rng hh2).2, (u64_rng hl2).1, (u64_rng hl2).2⟩
  let T := ((((((T0.add 14 SAlive2).add 15 SPre).add 16 SChkS).add 20 SOf).add 21 SCut).add 22 SCovers).add 23 SNext
  have hT : T.ok Tryd.prog := Tab.add_ok (Tab.add_ok (Tab.add_ok (Tab.add_ok (Tab.add_ok (Tab.add_ok (Tab.add_ok (T0_ok _) runs_alive2) runs_span_Prefixes) runs_span_Check) runs_span_Of) runs_number_Cut) runs_number_Covers) runs_span_Next
  have hal2 : SAlive2 [] = some ⟨.bool true, []⟩ := rfl
  refine Runs.of_body Tryd.func4 (by decide) rfl (by simp [Tryd.f4]) ?_
  refine W.seqE hT mixed M_f4 (by kernel_rfl) ?_
  simp [Tryd.f4]
  refine W.seqE hT mixed M_f4 (by kernel_rfl) ?_
  simp [Tryd.f4, T, hal2]
  by_cases hc : chkS f h1 l1 h2 l2 = 0
  · have hpre : SPre [.int .u8 f, .agg [.int .u64 h1, .int .u64 l1, .int .u64 h2, .int .u64 l2]] = some ⟨.tup [.own 0, .int .i64 0], [.sl 4 40 (wRows f (numA (h1, l1)) (numA (h2, l2)) (widN f) 0)]⟩ := by
      simp only [SPre]; rw [if_pos ⟨i1, i2⟩, if_pos hc]
    have hchk : SChkS [.int .u8 f, .agg [.int .u64 h1, .int .u64 l1, .int .u64 h2, .int .u64 l2]] = some ⟨.int .i64 0, []⟩ := by
      simp only [SChkS, hc]
    obtain ⟨c1, c2, c3⟩ := chkS_zero hc
    have hle := (cmpA_le i1 i2).1 c3
    have hlen := wRows_254 (f := f) (a := numA (h1, l1)) (b := numA (h2, l2))
    obtain ⟨L, hL⟩ : ∃ L, L = wthN (numA (h1, l1)) (numA (h2, l2)) (widN f) 0 := ⟨_, rfl⟩
    have hLR : (wRows f (numA (h1, l1)) (numA (h2, l2)) (widN f) 0).length = L.length := by unfold wRows; rw [← hL]; simp
    have hrow := fun k hk => wRow_at (f := f) (lo := numA (h1, l1)) (hi := numA (h2, l2)) (k := k) hL hk
    have hrowd := fun k hk => wRow_d (f := f) (lo := numA (h1, l1)) (hi := numA (h2, l2)) (k := k) hL hk
    have hhlf : L.Pairwise hlf := by rw [hL]; exact wthN_hlf ⟨0, by simp⟩
    have h0 := LI_mk (L := L) (k := 0) i2 i1 c1 hle (by rw [List.drop_zero]; exact hL)
    have hat0 : (toA (L.getD 0 (0, 0)).1) = (h1, l1) := by
      rw [List.getD_eq_getElem?_getD, List.getElem?_eq_getElem h0.1.hk, Option.getD_some, h0.2 h0.1.hk, toA_numA i1.2.2.1 i1.2.2.2]
    rw [List.getD_eq_getElem?_getD] at hat0
    have hlen0 : 0 < L.length := h0.1.hk
    have hfr : ∀ r ∈ wRows f (numA (h1, l1)) (numA (h2, l2)) (widN f) 0, ∀ c ∈ r, c.tree = true := by
      intro r hr
      unfold wRows at hr
      obtain ⟨p, _, rfl⟩ := List.mem_map.1 hr
      simp [rowW, PF.row]
    generalize hR : wRows f (numA (h1, l1)) (numA (h2, l2)) (widN f) 0 = R at *
    refine W.cut True [(0, .int .u8 f), (3, .ptr 0 0), (5, .bool true), (6, .own 1), (7, .int .i64 0)] [.box 26 [.int .u64 h1, .int .u64 l1, .int .u64 h2, .int .u64 l2], .sl 4 40 R] 160 ?_ ?_
    · refine W.of_WE hT mixed M_f4 _ (by kernel_rfl) ?_
      simp [Tryd.f4, T, hpre]
    intro _
    refine W.wk (Wk.freeze 1 (.sl 4 40 R) (by simp) (by simp)) ?_
    have hl254 : ¬ (254 : Int) < R.length := by omega
    have hlne : ¬ (R.length : Int) = 0 := by omega
    have hRne : R ≠ [] := by intro h; rw [h] at hLR; simp at hLR; omega
    refine W.cut True [(0, .int .u8 f), (3, .ptr 0 0), (5, .bool true), (6, .rd 4 R)] [.box 26 [.int .u64 h1, .int .u64 l1, .int .u64 h2, .int .u64 l2]] 160 ?_ ?_
    · refine W.of_WE hT mixed M_f4 _ (by kernel_rfl) ?_
      simp [Tryd.f4, T, hchk]
    intro _
    refine W.cut True [(0, .int .u8 f), (3, .ptr 0 0), (5, .bool true), (6, .rd 4 R)] [.box 26 [.int .u64 h1, .int .u64 l1, .int .u64 h2, .int .u64 l2]] 160 ?_ ?_
    · refine W.of_WE hT mixed M_f4 _ (by kernel_rfl) ?_
      simp [Tryd.f4, hl254, hlne, hRne]
    intro _
    refine W.seqE hT mixed M_f4 (by kernel_rfl) ?_
    simp [Tryd.f4]
    refine W.cut False [] [] 160 ?_ ?_
    · refine W.seqE hT mixed M_f4 (by kernel_rfl) ?_
      simp [Tryd.f4]
      refine W.block (W.for (fun k => LI f (numA (h2, l2)) L k) (fun k => [(0, .int .u8 f), (3, .ptr 0 0), (5, .bool true), (6, .rd 4 R), (8, .ptr 1 0), (9, .int .i64 k)])
        (fun k => [.box 26 [.int .u64 h1, .int .u64 l1, .int .u64 h2, .int .u64 l2], .box 24 (atK L k)]) 160 L.length h0.1 ?_ ?_)
      · simp [atK, hat0]
      · intro k hk hJ
        have hlt := hJ.hk
        have ia : inA (toA L[k].1).1 (toA L[k].1).2 := hJ.ia
        have ca : cAddr f (toA L[k].1).1 (toA L[k].1).2 = true := hJ.ca
        have hnum : numA ((toA L[k].1).1, (toA L[k].1).2) = L[k].1 := numA_toA _
        have hst := LI_step i2 c2 hlt hJ
        have hw := widN_le f
        have hak : atK L k = [.int .u64 (toA L[k].1).1, .int .u64 (toA L[k].1).2] := by
          unfold atK
          rw [List.getD_eq_getElem?_getD, List.getElem?_eq_getElem hlt, Option.getD_some]
        rw [hak]
        have hrk := hrow k hlt
        have hrkd := hrowd k hlt
        have hltR : k < R.length := by omega
        have hrkE : R[k] = [.int .u8 f, .int .u64 (toA L[k].1).1, .int .u64 (toA L[k].1).2, .int .i64 ((widN f : Int) - L[k].2)] := by
          rw [List.getElem?_eq_getElem hltR] at hrk
          exact Option.some.inj hrk
        obtain ⟨s1, ⟨q, s2⟩, s3, s4⟩ := hst
        have hlr := lastA_rng (k := L[k].2) ia (by omega)
        have hln := last_num' ia L[k].2
        rw [hnum] at hln
        have hp := ipow_pos L[k].2
        have hdv : L[k].1 / 2 ^ L[k].2 * 2 ^ L[k].2 = L[k].1 := by rw [s2, Int.mul_ediv_cancel _ (by omega)]
        rw [hdv] at hln
        have e0 : ((widN f : Int) - (L[k].2 : Int)) = ((widN f - L[k].2 : Nat) : Int) := by omega
        have e1 : widN f - (((widN f - L[k].2 : Nat) : Int)).toNat = L[k].2 := by omega
        have hchkp : chkP f (toA L[k].1).1 (toA L[k].1).2 ((widN f : Int) - (L[k].2 : Int)) = 0 := by
          rw [e0]
          exact chkP_mk ia ca (by omega) q (by rw [hnum, show widN f - (widN f - L[k].2) = L[k].2 by omega]; exact s2)
        have hof : SOf [.agg [.int .u8 f, .int .u64 (toA L[k].1).1, .int .u64 (toA L[k].1).2, .int .i64 ((widN f : Int) - L[k].2)]] =
            some ⟨.tup [.agg [.int .u64 (toA L[k].1).1, .int .u64 (toA L[k].1).2, .int .u64 (lastA (toA L[k].1).1 (toA L[k].1).2 L[k].2).1, .int .u64 (lastA (toA L[k].1).1 (toA L[k].1).2 L[k].2).2], .int .i64 0], []⟩ := by
          simp only [SOf]; rw [if_pos ia, if_pos hchkp, e0, e1]
        have hcM : cAddr f (lastA (toA L[k].1).1 (toA L[k].1).2 L[k].2).1 (lastA (toA L[k].1).1 (toA L[k].1).2 L[k].2).2 = true := by
          refine cAddr_lt (cAddr_46 c2) hlr ?_
          have := (numA_lt i2 c2).2
          omega
        have hnx := nextA_num hlr hcM
        have hnS : SNext [.int .u8 f, .agg [.int .u64 (lastA (toA L[k].1).1 (toA L[k].1).2 L[k].2).1, .int .u64 (lastA (toA L[k].1).1 (toA L[k].1).2 L[k].2).2]] = some ⟨.tup [.agg [.int .u64 (nextA f (lastA (toA L[k].1).1 (toA L[k].1).2 L[k].2).1 (lastA (toA L[k].1).1 (toA L[k].1).2 L[k].2).2).1, .int .u64 (nextA f (lastA (toA L[k].1).1 (toA L[k].1).2 L[k].2).1 (lastA (toA L[k].1).1 (toA L[k].1).2 L[k].2).2).2.1], .bool (nextA f (lastA (toA L[k].1).1 (toA L[k].1).2 L[k].2).1 (lastA (toA L[k].1).1 (toA L[k].1).2 L[k].2).2).2.2], []⟩ := by
          simp only [SNext]; rw [if_pos hlr]
        have hfin : k + 1 = L.length → (lastA (toA L[k].1).1 (toA L[k].1).2 L[k].2).1 = h2 ∧ (lastA (toA L[k].1).1 (toA L[k].1).2 L[k].2).2 = l2 := by
          intro he
          refine pair_eq hlr i2 ?_
          rcases s4 with s4 | s4 <;> omega
        have hgo : k + 1 ≠ L.length → ∃ a b, nextA f (lastA (toA L[k].1).1 (toA L[k].1).2 L[k].2).1 (lastA (toA L[k].1).1 (toA L[k].1).2 L[k].2).2 = (a, b, true) ∧ LI f (numA (h2, l2)) L (k + 1) ∧ atK L (k + 1) = [.int .u64 a, .int .u64 b] := by
          intro he
          rcases s4 with s4 | ⟨q1, q2, q3, q4⟩
          · omega
          · obtain ⟨a, b, e1, e2, e3⟩ := hnx.1 (by have := (numA_lt i2 c2).2; omega)
            refine ⟨a, b, e1, q3, ?_⟩
            have e4 : L[k + 1].1 = numA (a, b) := by rw [q4 q1]; omega
            unfold atK
            rw [List.getD_eq_getElem?_getD, List.getElem?_eq_getElem q1, Option.getD_some, e4, toA_numA e3.2.2.1 e3.2.2.2]
        have hcv : ∀ h0 : 0 < k, ∀ hj : L[k].2 = (L[k - 1]'(by omega)).2, 0 < ((widN f : Int) - L[k].2) →
            SCut [.int .u8 f, .agg [.int .u64 (toA L[k].1).1, .int .u64 (toA L[k].1).2], .int .i64 (((widN f : Int) - L[k].2) - 1)] = some ⟨.tup [.agg [.int .u8 f, .int .u64 (cutA (toA L[k].1).1 (toA L[k].1).2 (L[k].2 + 1)).1, .int .u64 (cutA (toA L[k].1).1 (toA L[k].1).2 (L[k].2 + 1)).2, .int .i64 (((widN f : Int) - L[k].2) - 1)], .int .i64 0], []⟩ ∧
            SCovers [.agg [.int .u8 f, .int .u64 (cutA (toA L[k].1).1 (toA L[k].1).2 (L[k].2 + 1)).1, .int .u64 (cutA (toA L[k].1).1 (toA L[k].1).2 (L[k].2 + 1)).2, .int .i64 (((widN f : Int) - L[k].2) - 1)], .agg [.int .u8 f, .int .u64 (toA (L[k - 1]'(by omega)).1).1, .int .u64 (toA (L[k - 1]'(by omega)).1).2, .int .i64 ((widN f : Int) - (L[k - 1]'(by omega)).2)]] = some ⟨.bool false, []⟩ := by
          intro h0 hj hps
          have hm : L[k - 1]'(by omega) ∈ L := List.getElem_mem _
          obtain ⟨_, w1, w2, w3, _, _⟩ := wthN_blk (a := numA (h1, l1)) (b := numA (h2, l2)) (k := widN f) (N := 0) ⟨0, by simp⟩ (L[k - 1]'(by omega)) (by rw [← hL]; exact hm)
          have hpw := ipow_pos (L[k - 1]'(by omega)).2
          have h128 : (2 : Int) ^ widN f ≤ 340282366920938463463374607431768211456 := by rcases cAddr_46 c2 with rfl | rfl <;> decide
          have hr' : inA (toA (L[k - 1]'(by omega)).1).1 (toA (L[k - 1]'(by omega)).1).2 := toA_rng (by omega) (by omega)
          have e2 : widN f - (((widN f : Int) - L[k].2) - 1).toNat = L[k].2 + 1 := by omega
          constructor
          · simp only [SCut]
            rw [if_pos ia, if_pos ⟨ca, by omega, by omega⟩, e2]
          · simp only [SCovers]
            rw [if_pos ⟨cutA_rng ia _, hr'⟩]
            have hne : ¬ cutA (toA (L[k - 1]'(by omega)).1).1 (toA (L[k - 1]'(by omega)).1).2 (L[k].2 + 1) = ((cutA (toA L[k].1).1 (toA L[k].1).2 (L[k].2 + 1)).1, (cutA (toA L[k].1).1 (toA L[k].1).2 (L[k].2 + 1)).2) := by
              intro hc
              have g1 := cut_num' hr' (L[k].2 + 1)
              have g2 := cut_num' ia (L[k].2 + 1)
              rw [hc, numA_toA] at g1
              rw [g1] at g2
              rw [numA_toA] at g2
              have := Int.eq_of_mul_eq_mul_right (Int.ne_of_gt (ipow_pos _)) g2
              have hpp := List.pairwise_iff_getElem.1 hhlf (k - 1) k (by omega) hlt (by omega)
              exact hpp hj.symm (by rw [← hj]; exact this)
            unfold covP
            rw [e2]
            simp [hne]
        have hprev : ∀ h0 : 0 < k, R[k - 1]? = some [.int .u8 f, .int .u64 (toA (L[k - 1]'(by omega)).1).1, .int .u64 (toA (L[k - 1]'(by omega)).1).2, .int .i64 ((widN f : Int) - (L[k - 1]'(by omega)).2)] := fun h0 => hrow (k - 1) (by omega)
        have hlk := L[k].2
        have hwk : (L[k].2 : Int) ≤ widN f := by omega
        have hprev2 : ∀ h0 : 0 < k, ((L[k - 1]'(by omega)).2 : Int) ≤ widN f := fun h0 => by
          have hm : L[k - 1]'(by omega) ∈ L := List.getElem_mem _
          obtain ⟨_, _, _, w3, _, _⟩ := wthN_blk (a := numA (h1, l1)) (b := numA (h2, l2)) (k := widN f) (N := 0) ⟨0, by simp⟩ (L[k - 1]'(by omega)) (by rw [← hL]; exact hm)
          omega
        clear e0 e1 hlk hwk hnx s4 hln hrk hrkd hdv s2 hcM hchkp hnum ia ca hJ hhlf hL hrow hrowd h0
        obtain ⟨n, hn⟩ : ∃ n : Int, n = (widN f : Int) - L[k].2 := ⟨_, rfl⟩
        rw [← hn] at hrkE hof hcv
        generalize hM : lastA (toA L[k].1).1 (toA L[k].1).2 L[k].2 = M at *
        generalize hXY : toA L[k].1 = XY at *
        refine W.seqE hT mixed M_f4 (by kernel_rfl) ?_
        simp [hltR]
        refine W.cut (k + 1 ≠ L.length) [(0, .int .u8 f), (3, .ptr 0 0), (5, .bool true), (6, .rd 4 R), (8, .ptr 1 0), (9, .int .i64 k)] [.box 26 [.int .u64 h1, .int .u64 l1, .int .u64 h2, .int .u64 l2], .box 24 (atK L (k + 1))] 160 ?_ ?_
        · refine W.block ?_
          refine W.seqE hT mixed M_f4 (by kernel_rfl) ?_
          simp [T, hltR, hrkE, hof]
          refine W.cut True [(0, .int .u8 f), (3, .ptr 0 0), (5, .bool true), (6, .rd 4 R), (8, .ptr 1 0), (9, .int .i64 k), (10, .ptr 2 0)] [.box 26 [.int .u64 h1, .int .u64 l1, .int .u64 h2, .int .u64 l2], .box 24 [.int .u64 XY.1, .int .u64 XY.2], .box 26 [.int .u64 XY.1, .int .u64 XY.2, .int .u64 M.1, .int .u64 M.2]] 160 ?_ ?_
          · refine W.of_WE hT mixed M_f4 _ (by kernel_rfl) ?_
            simp [hltR, hrkE]
          intro _
          refine W.cut True [(0, .int .u8 f), (3, .ptr 0 0), (5, .bool true), (6, .rd 4 R), (8, .ptr 1 0), (9, .int .i64 k), (10, .ptr 2 0)] [.box 26 [.int .u64 h1, .int .u64 l1, .int .u64 h2, .int .u64 l2], .box 24 [.int .u64 XY.1, .int .u64 XY.2], .box 26 [.int .u64 XY.1, .int .u64 XY.2, .int .u64 M.1, .int .u64 M.2]] 160 ?_ ?_
          · refine W.of_WE hT mixed M_f4 _ (by kernel_rfl) ?_
            by_cases hk0 : 0 < k
            · have hk1 : k - 1 < R.length := by omega
              have hp1 : R[k - 1] = [.int .u8 f, .int .u64 (toA (L[k - 1]'(by omega)).1).1, .int .u64 (toA (L[k - 1]'(by omega)).1).2, .int .i64 ((widN f : Int) - (L[k - 1]'(by omega)).2)] := by
                have := hprev hk0
                rw [List.getElem?_eq_getElem hk1] at this
                exact Option.some.inj this
              have hp2 := hprev2 hk0
              have hc := hcv hk0
              have hk0' : (0 : Int) < k := by omega
              have hw1 : IntKind.i64.wrap ((k : Int) - 1) = k - 1 := wr_i64 (by omega) (by omega)
              have hn1 : ((k : Int) - 1).toNat = k - 1 := by omega
              have hb1 : (0 : Int) ≤ (k : Int) - 1 := by omega
              have hb2 : (k : Int) - 1 < R.length := by omega
              obtain ⟨n', hn'⟩ : ∃ n' : Int, n' = (widN f : Int) - (L[k - 1]'(by omega)).2 := ⟨_, rfl⟩
              rw [← hn'] at hp1 hc
              by_cases hje : n = n'
              · by_cases hps : 0 < n
                · obtain ⟨q1, q2⟩ := hc (by omega) hps
                  have hw2 : IntKind.i64.wrap (n - 1) = n - 1 := wr_i64 (by omega) (by omega)
                  subst hje
                  simp [T, hltR, hrkE, hk0, hk0', hw1, hn1, hb1, hb2, hk1, hp1, hps, hw2, q1, q2]
                  omega
                · subst hje
                  simp [T, hltR, hrkE, hk0, hk0', hw1, hn1, hb1, hb2, hk1, hp1, hps]
                  omega
              · simp [T, hltR, hrkE, hk0, hk0', hw1, hn1, hb1, hb2, hk1, hp1, hje]
                omega
            · have hk0' : ¬ (0 : Int) < k := by omega
              simp [hk0, hk0']
          intro _
          refine W.of_WE hT mixed M_f4 _ (by kernel_rfl) ?_
          have hw3 : IntKind.i64.wrap ((R.length : Int) - 1) = R.length - 1 := wr_i64 (by omega) (by omega)
          by_cases he : k + 1 = L.length
          · have he2 : (k : Int) = R.length - 1 := by omega
            obtain ⟨m1, m2⟩ := hfin he
            rw [m1, m2] at hnS
            simp [T, hnS, hw3, he2, m1, m2]
          · have he2 : ¬ (k : Int) = R.length - 1 := by omega
            obtain ⟨a, b, g1, g2, g3⟩ := hgo he
            rw [g1] at hnS
            simp [T, hnS, hw3, he2, g3]
            exact he
        · intro he
          obtain ⟨a, b, _, hl, _⟩ := hgo he
          have hw1 : IntKind.i64.wrap ((k : Int) + 1) = k + 1 := wr_i64 (by omega) (by omega)
          refine W.of_WE hT mixed M_f4 _ (by kernel_rfl) ?_
          simp [hw1]
          exact ⟨by omega, hl, by simp [atK], by simp [atK]⟩
    · intro hf
      exact hf.elim
  · have hchk : SChkS [.int .u8 f, .agg [.int .u64 h1, .int .u64 l1, .int .u64 h2, .int .u64 l2]] = some ⟨.int .i64 (chkS f h1 l1 h2 l2), []⟩ := by
      simp only [SChkS]
    have hpre : SPre [.int .u8 f, .agg [.int .u64 h1, .int .u64 l1, .int .u64 h2, .int .u64 l2]] = some ⟨.tup [.nils, .int .i64 (chkS f h1 l1 h2 l2)], []⟩ := by
      simp only [SPre]; rw [if_pos ⟨i1, i2⟩, if_neg hc]
    refine W.of_WE hT mixed M_f4 _ (by kernel_rfl) ?_
    simp [Tryd.f4, T, hpre, hchk, hc]

end Go.Proofs.YtpcblologcindaaDoor.AL
namespace Go.Proofs.YtpcblologcindaaDoor.AL
open Go
/-! A law whose row lists variables. -/
open Go.WideShapes Go.ChangeShapes
section
variable {H : Type} {enc : TypeId × Value → H}
theorem law_lifted_laid {C : Checked} [Gl C.prog] {os : Os} {f : FuncId} {fn : Func} {c : Code} {s : ChangeSpec} {apart fresh handsOn : Bool} {tb : TypeId} {k : Nat} {ls : List (List Sh)} {laid : List (String × DataW Unit)}
    (own : ownKnob C.prog.godebug = none) (laidOut : laidOutB C.prog = true) (started : os.Started) (noInit : C.prog.inits.idxOf? f = none) (hf : C.prog.funcs[f]? = some fn) (hn : fn.name ≠ "runtime.NumGoroutine") (hb : fn.body = some c)
    (hvars : s.vars = []) (hres : fn.resultTypes = #[tb]) (htb : C.prog.underlying tb = some .bool) (hpar : ∀ t ∈ fn.params.toList, C.prog.readableRec t = true ∧ t < C.prog.types.size)
    (hspec : ∀ ds : List (DataW H), ds.length = fn.params.size → s.fn H ds = { results := [.lit (.bool true)], args := ds })
    (witness : ∃ (w : World) (tape : Tape) (i : Input), w.os = os ∧ (w.forCall tape i).Shaped C.prog ∧ i.vars = [] ∧ Input.okWide C.prog (w.forCall tape i) .any w.heap.size f i ∧
      ((s.pre enc C.prog fn [] apart (w.forCall tape i).memory i.args ∧ laidMetH C.prog laid (w.forCall tape i).memory) ∧ sizedMet enc C.prog fn (OpenSpec.ofChange s) apart (w.forCall tape i).memory i.args) ∧ ({} : Assume).holds C.prog (lone (Frame.enter C.prog f i.args .normal) [] (w.forCall tape i)))
    (hsh : shAll C.prog k fn.params.toList = some ls)
    (hglob : ∀ W : World, laidMetH C.prog laid W → GOK C.prog ⟨W, fun _ => False, fun _ => undef, fun _ => False⟩)
    (hruns : ∀ As, ArgsV C.prog fn.params.toList ls As → Runs C.prog f As ⟨.bool true, []⟩) :
    ReturnsInHanded {} C os f .any (fun w args => (s.pre enc C.prog fn [] apart w args ∧ laidMetH C.prog laid w) ∧ sizedMet enc C.prog fn (OpenSpec.ofChange s) apart w args) (s.post enc C.prog fn apart fresh handsOn false) := by
  refine returnsInHanded_of_change_and (C := C) (X := fun w _ => laidMetH C.prog laid w) (fun _ _ _ hh h => h.of_heap hh) own started noInit hf witness ?_
  intro W base args ds gs before hval hW _ _ hL _
  have hW' := hW
  obtain ⟨p, q, hA, hV, rfl, hfz, hnd⟩ := hW
  rw [hvars] at hV
  obtain ⟨rfl, rfl⟩ := trodVars_none hV
  obtain ⟨As, h1, h2⟩ := args_V (E := ⟨W, fun _ => False, fun _ => undef, fun _ => False⟩) rfl (by simp) hA hsh (fun j t v e1 e2 => hval j t v (by simpa using e1) (by simpa using e2))
  have hlen : ds.length = fn.params.size := by
    have : ∀ {ts : List TypeId} {vs : List Value} {ds : List (DataW H)} {ps : List MemPlace}, DataW.TrodAll enc C.prog W 0 (fun _ => true) true ts vs ds ps → ds.length = ts.length := by
      intro ts
      induction ts with
      | nil => intro vs ds ps h; obtain ⟨_, rfl, _⟩ := trodAll_nil h; rfl
      | cons t ts ih =>
        intro vs ds ps h
        obtain ⟨_, _, _, _, _, _, _, rfl, _, _, h2⟩ := trodAll_cons h
        simp [ih h2]
    simpa using this hA
  have hc := law_calls (vs := args.toList) hf hn hb (hruns As h1) (hglob W hL) h2
  rw [show args.toList.toArray = args by simp] at hc
  refine hc.mono fun e W' ⟨he, bel⟩ => ?_
  subst he
  obtain ⟨qs, hq⟩ := args_behind laidOut bel hA hpar
  refine ⟨_, rfl, ds, [], _, [], qs, [], hW', ?_, ?_, ?_, bel.frame _, fun h => by cases h⟩
  · rw [List.append_nil, hspec ds hlen, hres]
    exact trodAll_mk1 (Go.RowKit.shut_bool htb _)
  · rw [List.append_nil, hspec ds hlen]
    exact hq
  · rw [List.append_nil, hspec ds hlen, hvars]
    rfl
end
end Go.Proofs.YtpcblologcindaaDoor.AL
