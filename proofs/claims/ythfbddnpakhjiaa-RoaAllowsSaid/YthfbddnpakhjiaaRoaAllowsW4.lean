import Derived.Test.YthfbddnpakhjiaaRoaAllowsW3
/- What single functions compute: a part of the proof; no conditions. -/
set_option linter.unusedVariables false
set_option linter.unusedSimpArgs false
set_option maxRecDepth 100000
namespace Go.Proofs.Ythfbddnpakhjiaa.AL
open Go
attribute [local simp] qf cv qbin ibin sbin qun retPost rvOk ctV ctPost marksOk retV resAll resOf V.lt ltL V.ren renL V.exp cleanL V.clean closedL V.closed V.cells V.one V.tree
  loadV cellsAt isAggD placesOf fillV putCells lstore bound seqParts V.sh shL Blk.sh newV V.ok peqs peq srcRows appOk V.fz fzL Blk.fz fzOk and_assoc
attribute [-simp] Int.not_le Int.not_lt Nat.not_le Nat.not_lt
def SBef : List V → Option Res
  | [.agg r1, .agg r2] => match apOf r1, apOf r2 with
    | some a, some b => some ⟨.bool (befA a b), []⟩
    | _, _ => none
  | _ => none
theorem runs_ref14_before : ∀ args r, SBef args = some r → Runs Try.prog 69 args r := by
  intro args r hh
  unfold SBef at hh
  split at hh
  · rename_i r1 r2
    split at hh
    · rename_i a b ha hb
      cases hh
      have h1 := apOf_eq ha
      have h2 := apOf_eq hb
      subst h1 h2
      have hT : (T0.add 97 SCompare).ok Try.prog := Tab.add_ok (T0_ok _) runs_ref01_Compare
      refine Runs.of_body Try.func69 (by decide) rfl (by simp [Try.f69]) ?_
      refine W.of_WE hT mixed M0 _ (by kernel_rfl) ?_
      simp +contextual [Try.f69, AP.row, SCompare]
      simp only [befA, AP.key, cmpL, cmpA]
      grind
    · cases hh
  · cases hh
/-- What an authorisation answers to a check. -/
def okAP (a : AP) : Bool := decide (chkP a.f a.h a.l a.n = 0) && (decide (a.n ≤ a.m) && decide (a.m ≤ widN a.f))
def AP0 : AP := ⟨0, 0, 0, 0, 0⟩
def okJ (l : List AP) (i : Nat) : Bool := okAP (l.getD i AP0) && (decide (i = 0) || befA (l.getD (i - 1) AP0) (l.getD i AP0))
def sndR (l : List AP) (k : Nat) : Bool := (List.range k).all (okJ l)
theorem sndR_succ (l : List AP) (k : Nat) : sndR l (k + 1) = (sndR l k && okJ l k) := by simp [sndR, List.range_succ]
theorem okAP_pos {a : AP} (h : okAP a = true) : 0 ≤ a.n ∧ 0 ≤ a.m ∧ (a.f = 4 ∨ a.f = 6) := by
  simp only [okAP, Bool.and_eq_true, decide_eq_true_eq] at h
  obtain ⟨j, hj, _, hc, _⟩ := chk_zero h.1
  exact ⟨by omega, by omega, cAddr_46 hc⟩
theorem okAP_w (a : AP) : okAP a = (decide (chkP a.f a.h a.l a.n = 0) && (decide (a.n ≤ a.m) && decide (a.m ≤ if a.f = 6 then 128 else 32))) := by
  unfold okAP
  by_cases h : chkP a.f a.h a.l a.n = 0
  · obtain ⟨j, hj, _, hc, _⟩ := chk_zero h
    rcases cAddr_46 hc with h4 | h6
    · rw [h4]; rfl
    · rw [h6]; rfl
  · simp [h]
def chkRoa (l : List AP) : Int := if 100 < l.length then 4 else if l.length = 0 then 8 else if sndR l l.length = true then 0 else 8
def SRoa : List V → Option Res
  | [.agg [.int .u32 w, .rd 5 rows]] => match apsOf rows with
    | some l => if (∀ a ∈ l, inAP a) ∧ l.length ≤ 1000 then some ⟨.int .i64 (chkRoa l), []⟩ else none
    | none => none
  | _ => none
theorem ap_get {l : List AP} {k : Nat} (h : k < l.length) : l.getD k AP0 = l[k] := by simp [h]
theorem okJ_ord {l : List AP} (hin : ∀ a ∈ l, inAP a) {k : Nat} (hk : k + 1 < l.length) (hs : sndR l (k + 1) = true) (ho : okAP l[k + 1] = true) :
    decide (ordA l[k] l[k + 1] < 0) = befA l[k] l[k + 1] := by
  rw [sndR_succ] at hs
  simp only [Bool.and_eq_true, okJ, ap_get (show k < l.length by omega)] at hs
  have h1 := okAP_pos hs.2.1
  have h2 := okAP_pos ho
  exact ord_bef (hin _ (List.getElem_mem _)) (hin _ (List.getElem_mem _)) h1.1 h1.2.1 h2.1 h2.2.1
def M_f20 : Md := fun i => if i = 11 then some #[0, 1, 3, 7, 15, 31, 63, 31, 159, 511, 1023, 31, 4095, 8191, 16383, 32767, 65535] else some #[]
@[simp] theorem M_f20_eq {i : Nat} : M_f20 i = (if i = 11 then some #[0, 1, 3, 7, 15, 31, 63, 31, 159, 511, 1023, 31, 4095, 8191, 16383, 32767, 65535] else some #[]) := rfl
theorem runs_roa_Check : ∀ args r, SRoa args = some r → Runs Try.prog 20 args r := by
  intro args r hh
  unfold SRoa at hh
  split at hh
  · rename_i w rows
    split at hh
    · rename_i l hl
      split at hh
      · rename_i hin
        obtain ⟨hin, hlen⟩ := hin
        cases hh
        have h1 := apsOf_eq hl
        subst h1
        have hT : ((T0.add 22 SCheck).add 54 SOrd).ok Try.prog := Tab.add_ok (Tab.add_ok (T0_ok _) runs_number_Check) runs_roa_order
        refine Runs.of_body Try.func20 (by decide) rfl (by simp [Try.f20]) ?_
        refine W.seqE hT mixed M_f20 (by kernel_rfl) ?_
        simp [Try.f20]
        refine W.seqE hT mixed M_f20 (by kernel_rfl) ?_
        by_cases h100 : 100 < l.length
        · simp [Try.f20, h100, show 100 < (l.length : Int) by omega, chkRoa]
        · simp [Try.f20, h100, show ¬ 100 < (l.length : Int) by omega]
          refine W.seqE hT mixed M_f20 (by kernel_rfl) ?_
          simp [Try.f20]
          refine W.cut True [(3, .bool (decide (0 < l.length) && sndR l l.length))] [] 67 ?_ ?_
          · refine W.seqE hT mixed M_f20 (by kernel_rfl) ?_
            simp [Try.f20]
            refine W.block (W.for (fun k => True) (fun k => [(1, .ptr 0 0), (3, .bool (decide (0 < l.length) && sndR l k)), (16, .rd 5 (l.map AP.row)), (17, .int .i64 l.length), (18, .int .i64 k)])
              (fun k => [.box 25 [.int .u32 w, .rd 5 (l.map AP.row)]]) 67 l.length trivial ?_ ?_)
            · simp [sndR]
            · intro k hk hJ
              by_cases hlt : k < l.length
              · have hg := hin l[k] (List.getElem_mem hlt)
                have hA : inA l[k].h l[k].l := ⟨hg.2.2.1, hg.2.2.2.1, hg.2.2.2.2.1, hg.2.2.2.2.2.1⟩
                have hw1 : IntKind.i64.wrap ((k : Int) + 1) = k + 1 := wr_i64 (by omega) (by omega)
                have hok := okAP_w l[k]
                have hs := sndR_succ l k
                rw [okJ, ap_get hlt] at hs
                generalize hb : (decide (0 < l.length) && sndR l k) = b
                refine W.seqE hT mixed M_f20 (by kernel_rfl) ?_
                simp [hlt]
                refine W.seqE hT mixed M_f20 (by kernel_rfl) ?_
                simp [hlt]
                refine W.cut True [(1, .ptr 0 0), (3, .bool (decide (0 < l.length) && sndR l (k + 1))), (16, .rd 5 (l.map AP.row)), (17, .int .i64 l.length), (18, .int .i64 k)] [.box 25 [.int .u32 w, .rd 5 (l.map AP.row)]] 67 ?_ ?_
                · refine W.block ?_
                  refine W.seqE hT mixed M_f20 (by kernel_rfl) ?_
                  simp [hlt, AP.row]
                  refine W.seqE hT mixed M_f20 (by kernel_rfl) ?_
                  simp
                  refine W.cut True [(1, .ptr 0 0), (3, .bool b), (4, .int .i64 k), (5, .ptr 1 0), (6, .int .i64 (if l[k].f = 6 then 128 else 32)), (16, .rd 5 (l.map AP.row)), (17, .int .i64 l.length), (18, .int .i64 k)]
                    [.box 25 [.int .u32 w, .rd 5 (l.map AP.row)], .box 76 l[k].row] 67 ?_ ?_
                  · refine W.of_WE hT mixed M_f20 _ (by kernel_rfl) ?_
                    by_cases h6 : l[k].f = 6
                    · simp [h6, AP.row]
                    · simp [h6, AP.row]
                  · intro _
                    refine W.cut True [(1, .ptr 0 0), (3, .bool (b && okAP l[k])), (4, .int .i64 k), (5, .ptr 1 0), (6, .int .i64 (if l[k].f = 6 then 128 else 32)), (16, .rd 5 (l.map AP.row)), (17, .int .i64 l.length), (18, .int .i64 k)]
                      [.box 25 [.int .u32 w, .rd 5 (l.map AP.row)], .box 76 l[k].row] 67 ?_ ?_
                    · refine W.of_WE hT mixed M_f20 _ (by kernel_rfl) ?_
                      rw [hok]
                      cases b with
                      | false => simp [AP.row]
                      | true =>
                        by_cases c1 : chkP l[k].f l[k].h l[k].l l[k].n = 0
                        · by_cases c2 : l[k].n ≤ l[k].m
                          · simp [AP.row, SCheck, hA, c1, c2]
                          · simp [AP.row, SCheck, hA, c1, c2]
                        · simp [AP.row, SCheck, hA, c1]
                    · intro _
                      refine W.of_WE hT mixed M_f20 _ (by kernel_rfl) ?_
                      cases ho : (b && okAP l[k]) with
                      | false =>
                        simp [AP.row]
                        intro h0
                        simp [h0] at hb
                        rw [hs, hb, ← Bool.and_assoc, ho]
                        rfl
                      | true =>
                        simp at ho
                        cases k with
                        | zero =>
                          simp [AP.row]
                          refine ⟨hlt, ?_⟩
                          rw [hs, ho.2]
                          rfl
                        | succ j =>
                          have hw2 : IntKind.i64.wrap (j : Int) = j := wr_i64 (by omega) (by omega)
                          simp [AP.row, hw2, show j < l.length by omega, SOrd, apOf, show ¬ ((j : Int) + 1 = 0) by omega]
                          have hsj : sndR l (j + 1) = true := by
                            rw [ho.1] at hb; simp at hb; exact hb.2
                          have hoo := okJ_ord hin hlt hsj ho.2
                          rw [hs, hsj, ho.2, ap_get (show j + 1 - 1 < l.length by omega)]
                          simp
                          rw [decide_eq_true (show 0 < l.length by omega), Bool.true_and]
                          exact hoo
                · intro _
                  refine W.of_WE hT mixed M_f20 _ (by kernel_rfl) ?_
                  simp [hw1, hlt]
              · have : k = l.length := by omega
                subst this
                refine W.of_WE hT mixed M_f20 _ (by kernel_rfl) ?_
                simp
          · intro _
            refine W.of_WE hT mixed M_f20 _ (by kernel_rfl) ?_
            simp +contextual [Try.f20]
            unfold chkRoa
            rw [if_neg h100]
            refine ⟨fun h => ?_, fun h1 h2 => ?_⟩
            · rcases h with h | h
              · rw [if_pos (by omega)]
              · simp [h]
            · rw [if_neg (by omega), if_pos h2]
      · cases hh
    · cases hh
  · cases hh
def M_f28 : Md := fun i => if i = 9 then some #[0, 1, 3, 7, 15, 31, 63, 31, 159, 415, 1023, 2047, 4095, 8191, 16383, 8191, 40959, 106495, 237567, 524287, 1048575] else if i = 11 then some #[0, 1, 3, 7, 15, 7, 39, 127, 255, 7, 1023, 2047, 4095] else some #[]
@[simp] theorem M_f28_eq {i : Nat} : M_f28 i = (if i = 9 then some #[0, 1, 3, 7, 15, 31, 63, 31, 159, 415, 1023, 2047, 4095, 8191, 16383, 8191, 40959, 106495, 237567, 524287, 1048575] else if i = 11 then some #[0, 1, 3, 7, 15, 7, 39, 127, 255, 7, 1023, 2047, 4095] else some #[]) := rfl
theorem runs_ref14_Check : ∀ args r, SRoa args = some r → Runs Try.prog 28 args r := by
  intro args r hh
  unfold SRoa at hh
  split at hh
  · rename_i w rows
    split at hh
    · rename_i l hl
      split at hh
      · rename_i hin
        obtain ⟨hin, hlen⟩ := hin
        cases hh
        have h1 := apsOf_eq hl
        subst h1
        have hT : (((T0.add 37 SCheck).add 68 SWid).add 69 SBef).ok Try.prog := Tab.add_ok (Tab.add_ok (Tab.add_ok (T0_ok _) runs_ref01_Check) runs_ref01_Width) runs_ref14_before
        refine Runs.of_body Try.func28 (by decide) rfl (by simp [Try.f28]) ?_
        refine W.seqE hT mixed M_f28 (by kernel_rfl) ?_
        simp [Try.f28]
        refine W.seqE hT mixed M_f28 (by kernel_rfl) ?_
        by_cases h100 : 100 < l.length
        · simp [Try.f28, h100, show 100 < (l.length : Int) by omega, chkRoa]
        · simp [Try.f28, h100, show ¬ 100 < (l.length : Int) by omega]
          refine W.seqE hT mixed M_f28 (by kernel_rfl) ?_
          by_cases h0 : l.length = 0
          · simp [Try.f28, h0, chkRoa]
          · simp [Try.f28, h0]
            refine W.cut (sndR l l.length = true) [] [] 59 ?_ ?_
            · refine W.seqE hT mixed M_f28 (by kernel_rfl) ?_
              simp [Try.f28]
              refine W.block (W.for (fun k => sndR l k = true) (fun k => [(1, .ptr 0 0), (3, .int .i64 k)])
                (fun k => [.box 25 [.int .u32 w, .rd 5 (l.map AP.row)]]) 59 l.length (by simp [sndR]) ?_ ?_)
              · simp
              · intro k hk hJ
                by_cases hlt : k < l.length
                · have hg := hin l[k] (List.getElem_mem hlt)
                  have hA : inA l[k].h l[k].l := ⟨hg.2.2.1, hg.2.2.2.1, hg.2.2.2.2.1, hg.2.2.2.2.2.1⟩
                  have hw1 : IntKind.i64.wrap ((k : Int) + 1) = k + 1 := wr_i64 (by omega) (by omega)
                  have hs := sndR_succ l k
                  rw [okJ, ap_get hlt, hJ, Bool.true_and] at hs
                  have hfail : okJ l k = false → 8 = chkRoa l := by
                    intro hf
                    have : sndR l l.length = false := by
                      simp only [sndR, List.all_eq_false, List.mem_range]
                      exact ⟨k, hlt, by simp [hf]⟩
                    simp [chkRoa, h100, h0, this]
                  rw [okJ, ap_get hlt] at hfail
                  refine W.seqE hT mixed M_f28 (by kernel_rfl) ?_
                  simp [hlt]
                  refine W.cut (sndR l (k + 1) = true) [(1, .ptr 0 0), (3, .int .i64 k)] [.box 25 [.int .u32 w, .rd 5 (l.map AP.row)]] 59 ?_ ?_
                  · refine W.block ?_
                    refine W.seqE hT mixed M_f28 (by kernel_rfl) ?_
                    simp [hlt, AP.row]
                    refine W.cut (okAP l[k] = true) [(1, .ptr 0 0), (3, .int .i64 k), (4, .ptr 1 0)] [.box 25 [.int .u32 w, .rd 5 (l.map AP.row)], .box 76 l[k].row] 59 ?_ ?_
                    · refine W.of_WE hT mixed M_f28 _ (by kernel_rfl) ?_
                      by_cases c1 : chkP l[k].f l[k].h l[k].l l[k].n = 0
                      · by_cases c2 : l[k].m < l[k].n
                        · simp [AP.row, SCheck, hA, c1, c2]
                          exact hfail (by simp [okAP, c1, show ¬ l[k].n ≤ l[k].m by omega])
                        · by_cases c3 : (widN l[k].f : Int) < l[k].m
                          · simp [AP.row, SCheck, SWid, wid_N, hA, c1, c2, c3]
                            exact hfail (by simp [okAP, c1, show ¬ l[k].m ≤ (widN l[k].f : Int) by omega])
                          · simp [AP.row, SCheck, SWid, wid_N, hA, c1, c2, c3]
                            simp [okAP, c1, show l[k].n ≤ l[k].m by omega, show l[k].m ≤ (widN l[k].f : Int) by omega]
                      · simp [AP.row, SCheck, hA, c1]
                        exact hfail (by simp [okAP, c1])
                    · intro hok
                      refine W.of_WE hT mixed M_f28 _ (by kernel_rfl) ?_
                      cases k with
                      | zero =>
                        simp [AP.row]
                        rw [hs, hok]
                        rfl
                      | succ j =>
                        have hw2 : IntKind.i64.wrap (j : Int) = j := wr_i64 (by omega) (by omega)
                        simp [AP.row, hw2, show j < l.length by omega, SBef, apOf, show 0 < (j : Int) + 1 by omega]
                        rw [hok, ap_get (show j + 1 - 1 < l.length by omega)] at hs hfail
                        simp at hs hfail
                        refine ⟨fun hf => hfail hf, fun hf => ?_⟩
                        rw [hs]
                        exact hf
                  · intro hs1
                    refine W.of_WE hT mixed M_f28 _ (by kernel_rfl) ?_
                    simp [hw1, hlt, hs1]
                · have : k = l.length := by omega
                  subst this
                  refine W.of_WE hT mixed M_f28 _ (by kernel_rfl) ?_
                  simp [hJ]
            · intro hsn
              refine W.of_WE hT mixed M_f28 _ (by kernel_rfl) ?_
              simp +contextual [Try.f28, chkRoa, h100, h0, hsn]
      · cases hh
    · cases hh
  · cases hh

end Go.Proofs.Ythfbddnpakhjiaa.AL
namespace Go.Proofs.Ythfbddnpakhjiaa.AL
open Go
attribute [local simp] qf cv qbin ibin sbin qun retPost rvOk ctV ctPost marksOk retV resAll resOf V.lt ltL V.ren renL V.exp cleanL V.clean closedL V.closed V.cells V.one V.tree
  loadV cellsAt isAggD placesOf fillV putCells lstore bound seqParts V.sh shL Blk.sh newV V.ok peqs peq srcRows appOk V.fz fzL Blk.fz fzOk and_assoc
attribute [-simp] Int.not_le Int.not_lt Nat.not_le Nat.not_lt
def SGreat : List V → Option Res
  | [.agg [.int .u32 w, .rd 5 rows]] => some ⟨.bool (decide (130 < rows.length)), []⟩
  | _ => none
theorem runs_ref14_Great : ∀ args r, SGreat args = some r → Runs Try.prog 10 args r := by
  intro args r hh
  unfold SGreat at hh
  split at hh
  · cases hh
    refine Runs.of_body Try.func10 (by decide) rfl (by simp [Try.f10]) ?_
    refine W.of_WE (T0_ok _) mixed M0 _ (by kernel_rfl) ?_
    simp +contextual [Try.f10]
    omega
  · cases hh
def SOr2 : List V → Option Res
  | [.rd 1 [[.int .i64 a], [.int .i64 b]]] => some ⟨.int .i64 (if a = 0 then b else a), []⟩
  | _ => none
theorem runs_cmp_Or_Errno : ∀ args r, SOr2 args = some r → Runs Try.prog 34 args r := by
  intro args r hh
  unfold SOr2 at hh
  split at hh
  · rename_i a b
    cases hh
    refine Runs.of_body Try.func34 (by decide) rfl (by simp [Try.f34]) ?_
    refine W.seqE (T0_ok _) mixed M0 (by kernel_rfl) ?_
    simp [Try.f34]
    refine W.seqE (T0_ok _) mixed M0 (by kernel_rfl) ?_
    simp [Try.f34]
    refine W.cut (a = 0 ∧ b = 0) [(3, .int .i64 0)] [] 18 ?_ ?_
    · refine W.seqE (T0_ok _) mixed M0 (by kernel_rfl) ?_
      simp [Try.f34]
      refine W.block (W.for (fun k => (0 < k → a = 0) ∧ (1 < k → b = 0)) (fun k => [(3, .int .i64 0), (6, .rd 1 [[.int .i64 a], [.int .i64 b]]), (7, .int .i64 2), (8, .int .i64 k)]) (fun k => []) 18 2 (by simp) ?_ ?_)
      · simp
      · intro k hk hJ
        refine W.of_WE (T0_ok _) mixed M0 _ (by kernel_rfl) ?_
        match k, hk, hJ with
        | 0, _, hJ =>
          by_cases ha : a = 0
          · simp [ha]; rfl
          · simp [ha]
        | 1, _, hJ =>
          by_cases hb : b = 0
          · simp [hb, hJ.1 (by omega)]; rfl
          · simp [hb, hJ.1 (by omega)]
        | 2, _, hJ => simp [hJ.1, hJ.2]
    · intro ⟨ha, hb⟩
      refine W.of_WE (T0_ok _) mixed M0 _ (by kernel_rfl) ?_
      simp [Try.f34, ha, hb]
  · cases hh
/-- Does an element allow this one? -/
def alwA (a : AP) (f h l n : Int) : Bool := covP a.f a.h a.l a.n f h l n && decide (n ≤ a.m)
def SAlw1 : List V → Option Res
  | [.agg r, .rptr [.int .u8 f, .int .u64 h, .int .u64 l, .int .i64 n] 0] => match apOf r with
    | some a => if inA a.h a.l ∧ inA h l then some ⟨.bool (alwA a f h l n), []⟩ else none
    | none => none
  | _ => none
theorem runs_roa_Allows_1 : ∀ args r, SAlw1 args = some r → Runs Try.prog 36 args r := by
  intro args r hh
  unfold SAlw1 at hh
  split at hh
  · rename_i r f h l n
    split at hh
    · rename_i a ha
      split at hh
      · rename_i hin
        cases hh
        have h1 := apOf_eq ha
        subst h1
        have hT : (T0.add 23 SCovers).ok Try.prog := Tab.add_ok (T0_ok _) runs_number_Covers
        refine Runs.of_body Try.func36 (by decide) rfl (by simp [Try.f36]) ?_
        refine W.of_WE hT mixed M0 _ (by kernel_rfl) ?_
        cases hc : covP a.f a.h a.l a.n f h l n
        · simp [Try.f36, AP.row, SCovers, hin, hc, alwA]
        · simp [Try.f36, AP.row, SCovers, hin, hc, alwA]
      · cases hh
    · cases hh
  · cases hh
def idxA (l : List AP) (f h lo n : Int) : Nat → Int
  | 0 => -1
  | k + 1 => if alwA (l.getD (l.length - (k + 1)) AP0) f h lo n = true then (l.length - (k + 1) : Nat) else idxA l f h lo n k
def SIdx : List V → Option Res
  | [.rd 5 rows, .fn 36 [] [.rptr [.int .u8 f, .int .u64 h, .int .u64 lo, .int .i64 n] 0]] => match apsOf rows with
    | some l => if (∀ a ∈ l, inAP a) ∧ l.length ≤ 1000 ∧ inA h lo then some ⟨.int .i64 (idxA l f h lo n l.length), []⟩ else none
    | none => none
  | _ => none
theorem runs_IndexFunc_Allows : ∀ args r, SIdx args = some r → Runs Try.prog 72 args r := by
  intro args r hh
  unfold SIdx at hh
  split at hh
  · rename_i rows f h lo n
    split at hh
    · rename_i l hl
      split at hh
      · rename_i hin
        obtain ⟨hin, hlen, hA⟩ := hin
        cases hh
        have h1 := apsOf_eq hl
        subst h1
        have hT : (T0.add 36 SAlw1).ok Try.prog := Tab.add_ok (T0_ok _) runs_roa_Allows_1
        refine Runs.of_body Try.func72 (by decide) rfl (by simp [Try.f72]) ?_
        refine W.seqE hT mixed M0 (by kernel_rfl) ?_
        simp [Try.f72]
        refine W.cut (idxA l f h lo n l.length = -1) [] [] 19 ?_ ?_
        · refine W.seqE hT mixed M0 (by kernel_rfl) ?_
          simp [Try.f72]
          refine W.block (W.for (fun k => idxA l f h lo n l.length = idxA l f h lo n (l.length - k))
            (fun k => [(0, .rd 5 (l.map AP.row)), (1, .fn 36 [] [.rptr [.int .u8 f, .int .u64 h, .int .u64 lo, .int .i64 n] 0]), (6, .rd 5 (l.map AP.row)), (7, .int .i64 l.length), (8, .int .i64 k)]) (fun k => []) 19 l.length (by simp) ?_ ?_)
          · simp
          · intro k hk hJ
            refine W.of_WE hT mixed M0 _ (by kernel_rfl) ?_
            by_cases hlt : k < l.length
            · have hg := hin l[k] (List.getElem_mem hlt)
              have hAk : inA l[k].h l[k].l := ⟨hg.2.2.1, hg.2.2.2.1, hg.2.2.2.2.1, hg.2.2.2.2.2.1⟩
              have hw1 : IntKind.i64.wrap ((k : Int) + 1) = k + 1 := wr_i64 (by omega) (by omega)
              have hstep : idxA l f h lo n (l.length - k) = if alwA l[k] f h lo n = true then (k : Int) else idxA l f h lo n (l.length - (k + 1)) := by
                rw [show l.length - k = (l.length - (k + 1)) + 1 by omega, idxA]
                rw [show l.length - (l.length - (k + 1) + 1) = k by omega, ap_get hlt]
              rw [hstep] at hJ
              cases ha : alwA l[k] f h lo n
              · simp [ha] at hJ
                simp [hlt, AP.row, SAlw1, apOf, hAk, hA, ha, hw1]
                exact hJ
              · simp [ha] at hJ
                simp [hlt, AP.row, SAlw1, apOf, hAk, hA, ha]
                exact hJ.symm
            · have : k = l.length := by omega
              subst this
              simp
              rw [hJ]
              simp [idxA]
        · intro hi
          refine W.of_WE hT mixed M0 _ (by kernel_rfl) ?_
          simp [Try.f72, hi]
      · cases hh
    · cases hh
  · cases hh
theorem idx_any {l : List AP} {f h lo n : Int} : ∀ k, k ≤ l.length → decide (0 ≤ idxA l f h lo n k) = (l.drop (l.length - k)).any fun a => alwA a f h lo n
  | 0, _ => by simp [idxA]
  | k + 1, hk => by
    have hlt : l.length - (k + 1) < l.length := by omega
    rw [List.drop_eq_getElem_cons hlt, List.any_cons, show l.length - (k + 1) + 1 = l.length - k by omega, ← idx_any k (by omega), idxA, ap_get hlt]
    cases alwA l[l.length - (k + 1)] f h lo n
    · simp
    · simp
def SCon : List V → Option Res
  | [.rd 5 rows, .fn 36 [] [.rptr [.int .u8 f, .int .u64 h, .int .u64 lo, .int .i64 n] 0]] => match apsOf rows with
    | some l => if (∀ a ∈ l, inAP a) ∧ l.length ≤ 1000 ∧ inA h lo then some ⟨.bool (l.any fun a => alwA a f h lo n), []⟩ else none
    | none => none
  | _ => none
theorem runs_ContainsFunc_Allows : ∀ args r, SCon args = some r → Runs Try.prog 35 args r := by
  intro args r hh
  unfold SCon at hh
  split at hh
  · rename_i rows f h lo n
    split at hh
    · rename_i l hl
      split at hh
      · rename_i hin
        cases hh
        have h1 := apsOf_eq hl
        subst h1
        have hT : (T0.add 72 SIdx).ok Try.prog := Tab.add_ok (T0_ok _) runs_IndexFunc_Allows
        refine Runs.of_body Try.func35 (by decide) rfl (by simp [Try.f35]) ?_
        refine W.of_WE hT mixed M0 _ (by kernel_rfl) ?_
        have hS : SIdx [.rd 5 (l.map AP.row), .fn 36 [] [.rptr [.int .u8 f, .int .u64 h, .int .u64 lo, .int .i64 n] 0]] = some ⟨.int .i64 (idxA l f h lo n l.length), []⟩ := by
          simp only [SIdx, hl]
          rw [if_pos hin]
        simp [Try.f35, hS]
        have := idx_any (l := l) (f := f) (h := h) (lo := lo) (n := n) l.length (by omega)
        simpa using this
      · cases hh
    · cases hh
  · cases hh
def alwR (l : List AP) (w ww f h lo n : Int) : Bool × Int := if chkRoa l ≠ 0 then (false, chkRoa l) else if chkP f h lo n ≠ 0 then (false, chkP f h lo n) else (decide (ww = w) && (!decide (ww = 0) && l.any fun a => alwA a f h lo n), 0)
def SAllows : List V → Option Res
  | [.agg [.int .u32 w, .rd 5 rows], .agg [.int .u8 f, .int .u64 h, .int .u64 lo, .int .i64 n], .int .u32 ww] => match apsOf rows with
    | some l => if (∀ a ∈ l, inAP a) ∧ l.length ≤ 1000 ∧ inA h lo then some ⟨.tup [.bool (alwR l w ww f h lo n).1, .int .i64 (alwR l w ww f h lo n).2], []⟩ else none
    | none => none
  | _ => none
def M_f11 : Md := fun i => if i = 1 then some #[0, 1, 0, 7, 15, 31, 63] else some #[]
@[simp] theorem M_f11_eq {i : Nat} : M_f11 i = (if i = 1 then some #[0, 1, 0, 7, 15, 31, 63] else some #[]) := rfl
theorem runs_roa_Allows : ∀ args r, SAllows args = some r → Runs Try.prog 11 args r := by
  intro args r hh
  unfold SAllows at hh
  split at hh
  · rename_i w rows f h lo n ww
    split at hh
    · rename_i l hl
      split at hh
      · rename_i hin
        cases hh
        have h1 := apsOf_eq hl
        subst h1
        have hT : ((((T0.add 20 SRoa).add 22 SCheck).add 34 SOr2).add 35 SCon).ok Try.prog := Tab.add_ok (Tab.add_ok (Tab.add_ok (Tab.add_ok (T0_ok _) runs_roa_Check) runs_number_Check) runs_cmp_Or_Errno) runs_ContainsFunc_Allows
        have hR : SRoa [.agg [.int .u32 w, .rd 5 (l.map AP.row)]] = some ⟨.int .i64 (chkRoa l), []⟩ := by
          simp only [SRoa, hl]
          rw [if_pos ⟨hin.1, hin.2.1⟩]
        have hS : SCon [.rd 5 (l.map AP.row), .fn 36 [] [.rptr [.int .u8 f, .int .u64 h, .int .u64 lo, .int .i64 n] 0]] = some ⟨.bool (l.any fun a => alwA a f h lo n), []⟩ := by
          simp only [SCon, hl]
          rw [if_pos hin]
        refine Runs.of_body Try.func11 (by decide) rfl (by simp [Try.f11]) ?_
        refine W.seqE hT mixed M_f11 (by kernel_rfl) ?_
        simp [Try.f11]
        refine W.seqE hT mixed M_f11 (by kernel_rfl) ?_
        by_cases c1 : chkRoa l = 0
        · by_cases c2 : chkP f h lo n = 0
          · simp [Try.f11, hR, SCheck, hin.2.2, SOr2, c1, c2]
            refine W.wk (Wk.freeze 8 (.box 30 [.int .u8 f, .int .u64 h, .int .u64 lo, .int .i64 n]) (by simp) (by simp)) ?_
            refine W.of_WE hT mixed M_f11 _ (by kernel_rfl) ?_
            by_cases c3 : ww = w
            · subst c3
              by_cases c4 : ww = 0
              · simp [Try.f11, c4, alwR, c1, c2]
              · simp [Try.f11, c4, hS, alwR, c1, c2]
            · simp [Try.f11, c3, alwR, c1, c2]
          · simp [Try.f11, hR, SCheck, hin.2.2, SOr2, c1, c2, alwR]
        · simp [Try.f11, hR, SCheck, hin.2.2, SOr2, c1, alwR]
      · cases hh
    · cases hh
  · cases hh
def M_f12 : Md := fun i => if i = 9 then some #[0, 0, 2, 7, 15, 31, 63, 127, 255, 511, 1023, 511, 4095, 8191, 16383, 511, 65535, 131071, 262143, 524287, 1048575, 524287, 2621439, 524287, 15204351, 31981567, 65535999, 134217727, 268435455] else some #[]
@[simp] theorem M_f12_eq {i : Nat} : M_f12 i = (if i = 9 then some #[0, 0, 2, 7, 15, 31, 63, 127, 255, 511, 1023, 511, 4095, 8191, 16383, 511, 65535, 131071, 262143, 524287, 1048575, 524287, 2621439, 524287, 15204351, 31981567, 65535999, 134217727, 268435455] else some #[]) := rfl
theorem runs_ref14_Allows : ∀ args r, SAllows args = some r → Runs Try.prog 12 args r := by
  intro args r hh
  unfold SAllows at hh
  split at hh
  · rename_i w rows f h lo n ww
    split at hh
    · rename_i l hl
      split at hh
      · rename_i hin
        cases hh
        have h1 := apsOf_eq hl
        subst h1
        obtain ⟨hin, hlen, hA⟩ := hin
        have hT : (((T0.add 28 SRoa).add 37 SCheck).add 38 SCovers).ok Try.prog := Tab.add_ok (Tab.add_ok (Tab.add_ok (T0_ok _) runs_ref14_Check) runs_ref01_Check) runs_ref01_Covers
        have hR : SRoa [.agg [.int .u32 w, .rd 5 (l.map AP.row)]] = some ⟨.int .i64 (chkRoa l), []⟩ := by
          simp only [SRoa, hl]
          rw [if_pos ⟨hin, hlen⟩]
        refine Runs.of_body Try.func12 (by decide) rfl (by simp [Try.f12]) ?_
        refine W.seqE hT mixed M_f12 (by kernel_rfl) ?_
        simp [Try.f12]
        refine W.seqE hT mixed M_f12 (by kernel_rfl) ?_
        simp [Try.f12, hR]
        refine W.seqE hT mixed M_f12 (by kernel_rfl) ?_
        by_cases c1 : chkRoa l = 0
        · simp [Try.f12, SCheck, hA, c1]
          refine W.seqE hT mixed M_f12 (by kernel_rfl) ?_
          by_cases c2 : chkP f h lo n = 0
          · simp [Try.f12, c2]
            have hq : alwR l w ww f h lo n = (decide (ww = w) && (!decide (ww = 0) && l.any fun a => alwA a f h lo n), 0) := by simp [alwR, c1, c2]
            refine W.cut ((decide (ww = w) && (!decide (ww = 0) && l.any fun a => alwA a f h lo n)) = false) [] [] 55 ?_ ?_
            · refine W.seqE hT mixed M_f12 (by kernel_rfl) ?_
              simp [Try.f12]
              refine W.block (W.for (fun k => (decide (ww = w) && (!decide (ww = 0) && (l.take k).any fun a => alwA a f h lo n)) = false) (fun k => [(2, .int .u32 ww), (3, .ptr 0 0), (4, .ptr 1 0), (9, .int .i64 k)])
                (fun k => [.box 25 [.int .u32 w, .rd 5 (l.map AP.row)], .box 30 [.int .u8 f, .int .u64 h, .int .u64 lo, .int .i64 n]]) 55 l.length (by simp) ?_ ?_)
              · simp
              · intro k hk hJ
                refine W.of_WE hT mixed M_f12 _ (by kernel_rfl) ?_
                by_cases hlt : k < l.length
                · have hg := hin l[k] (List.getElem_mem hlt)
                  have hAk : inA l[k].h l[k].l := ⟨hg.2.2.1, hg.2.2.2.1, hg.2.2.2.2.1, hg.2.2.2.2.2.1⟩
                  have hw1 : IntKind.i64.wrap ((k : Int) + 1) = k + 1 := wr_i64 (by omega) (by omega)
                  have htk := take_snoc' l k hlt
                  have hmem : alwA l[k] f h lo n = true → (l.any fun a => alwA a f h lo n) = true := fun h => List.any_eq_true.2 ⟨l[k], List.getElem_mem hlt, h⟩
                  by_cases c3 : ww = w
                  · subst c3
                    have hall : ¬ ww = 0 → ∀ x ∈ l.take k, alwA x f h lo n = false := by
                      intro h4 x hx
                      simp [h4] at hJ
                      exact hJ x hx
                    by_cases c4 : ww = 0
                    · simp [hlt, c4, hw1]
                    · cases c5 : covP l[k].f l[k].h l[k].l l[k].n f h lo n
                      · simp [hlt, c4, hw1, AP.row, SCovers, hAk, hA, c5]
                        rw [htk]
                        intro x hx
                        rcases List.mem_append.1 hx with hx | hx
                        · exact hall c4 x hx
                        · simp at hx; subst hx; simp [alwA, c5]
                      · by_cases c6 : n ≤ l[k].m
                        · simp [hlt, c4, hw1, AP.row, SCovers, hAk, hA, c5, c6]
                          have := hmem (by simp [alwA, c5, c6])
                          rw [hq, this]
                          simp [c4]
                        · simp [hlt, c4, hw1, AP.row, SCovers, hAk, hA, c5, c6]
                          rw [htk]
                          intro x hx
                          rcases List.mem_append.1 hx with hx | hx
                          · exact hall c4 x hx
                          · simp at hx; subst hx; simp [alwA, c5, c6]
                  · simp [hlt, c3, hw1]
                · have : k = l.length := by omega
                  subst this
                  simp
                  intro h3 h4
                  simp [h3, h4] at hJ
                  intro x hx
                  simp [h3 ▸ h4] at hJ
                  exact hJ x hx
            · intro hf
              refine W.of_WE hT mixed M_f12 _ (by kernel_rfl) ?_
              simp [Try.f12, hq, hf]
          · simp [Try.f12, c1, c2, alwR]
        · simp [Try.f12, c1]
          refine W.seqE hT mixed M_f12 (by kernel_rfl) ?_
          simp [Try.f12, c1, alwR]
      · cases hh
    · cases hh
  · cases hh

end Go.Proofs.Ythfbddnpakhjiaa.AL
namespace Go.Proofs.Ythfbddnpakhjiaa.AL
open Go
attribute [local simp] qf cv qbin ibin sbin qun retPost rvOk ctV ctPost marksOk retV resAll resOf V.lt ltL V.ren renL V.exp cleanL V.clean closedL V.closed V.cells V.one V.tree
  loadV cellsAt isAggD placesOf fillV putCells lstore bound seqParts V.sh shL Blk.sh newV V.ok peqs peq srcRows appOk V.fz fzL Blk.fz fzOk and_assoc
attribute [-simp] Int.not_le Int.not_lt Nat.not_le Nat.not_lt
theorem ap_of_shape {r : List V} (h : LSh [.int .u8, .int .u64, .int .u64, .int .i64, .int .i64] r) : ∃ a : AP, r = a.row ∧ inAP a := by
  simp only [LSh, VSh] at h
  obtain ⟨_, _, rfl, ⟨f, rfl, hf⟩, _, _, rfl, ⟨x, rfl, hx⟩, _, _, rfl, ⟨y, rfl, hy⟩, _, _, rfl, ⟨n, rfl, hn⟩, _, _, rfl, ⟨m, rfl, hm⟩, rfl⟩ := h
  refine ⟨⟨f, x, y, n, m⟩, rfl, ?_⟩
  have := u8_rng hf
  have := u64_rng hx
  have := u64_rng hy
  have := i64_rng hn
  have := i64_rng hm
  unfold inAP
  simp only
  omega
theorem aps_of_shape : ∀ {rows : List (List V)}, (∀ r ∈ rows, LSh [.int .u8, .int .u64, .int .u64, .int .i64, .int .i64] r) → ∃ l : List AP, rows = l.map AP.row ∧ ∀ a ∈ l, inAP a
  | [], _ => ⟨[], rfl, by simp⟩
  | r :: rows, h => by
    obtain ⟨a, rfl, ha⟩ := ap_of_shape (h r (by simp))
    obtain ⟨l, rfl, hl⟩ := aps_of_shape (rows := rows) (fun q hq => h q (by simp [hq]))
    exact ⟨a :: l, rfl, by simpa using ⟨ha, hl⟩⟩
theorem roaAllows_runs : ∀ As, ArgsV Try.prog Try.f3.params.toList [[.int .u32, .sl [.int .u8, .int .u64, .int .u64, .int .i64, .int .i64]], [.int .u8, .int .u64, .int .u64, .int .i64], [.int .u32]] As → Runs Try.prog 3 As ⟨.bool true, []⟩ := by
  intro As h
  obtain ⟨l, hl, w, f, x, y, n, ww, rfl, hA⟩ : ∃ l : List AP, (∀ a ∈ l, inAP a) ∧ ∃ w f x y n ww, As = [.agg [.int .u32 w, .rd 5 (l.map AP.row)], .agg [.int .u8 f, .int .u64 x, .int .u64 y, .int .i64 n], .int .u32 ww] ∧ inA x y := by
    simp only [Try.f3, ArgsV] at h
    obtain ⟨_, _, V1, _, e1, rfl, h1, _, _, V2, _, e2, rfl, h2, _, _, V3, _, e3, rfl, h3, rfl, rfl⟩ := h
    simp only [List.cons.injEq] at e1
    obtain ⟨rfl, rfl⟩ := e1
    simp only [List.cons.injEq] at e2
    obtain ⟨rfl, rfl⟩ := e2
    simp only [List.cons.injEq] at e3
    obtain ⟨rfl, _⟩ := e3
    simp only [LSh, VSh, shLen] at h1 h2 h3
    obtain ⟨_, _, rfl, ⟨w, rfl, hw⟩, _, _, rfl, ⟨rows, rfl, hlen, hrows⟩, rfl⟩ := h1
    obtain ⟨_, _, rfl, ⟨f, rfl, hf⟩, _, _, rfl, ⟨x, rfl, hx⟩, _, _, rfl, ⟨y, rfl, hy⟩, _, _, rfl, ⟨n, rfl, hn⟩, rfl⟩ := h2
    obtain ⟨_, _, rfl, ⟨ww, rfl, hww⟩, rfl⟩ := h3
    obtain ⟨l, rfl, hl⟩ := aps_of_shape (rows := rows) (fun r hr => by simpa only [LSh, VSh] using hrows r hr)
    exact ⟨l, hl, w, f, x, y, n, ww, by simp [argV], (u64_rng hx).1, (u64_rng hx).2, (u64_rng hy).1, (u64_rng hy).2⟩
  have hT : (((T0.add 10 SGreat).add 11 SAllows).add 12 SAllows).ok Try.prog := Tab.add_ok (Tab.add_ok (Tab.add_ok (T0_ok _) runs_ref14_Great) runs_roa_Allows) runs_ref14_Allows
  refine Runs.of_body Try.func3 (by decide) rfl (by simp [Try.f3]) ?_
  refine W.of_WE hT mixed M0 _ (by kernel_rfl) ?_
  by_cases h130 : 130 < l.length
  · simp [Try.f3, SGreat, h130]
  · have hS : SAllows [.agg [.int .u32 w, .rd 5 (l.map AP.row)], .agg [.int .u8 f, .int .u64 x, .int .u64 y, .int .i64 n], .int .u32 ww] = some ⟨.tup [.bool (alwR l w ww f x y n).1, .int .i64 (alwR l w ww f x y n).2], []⟩ := by
      simp only [SAllows, apsOf_map]
      rw [if_pos ⟨hl, by omega, hA⟩]
    simp [Try.f3, SGreat, h130, hS]

end Go.Proofs.Ythfbddnpakhjiaa.AL
