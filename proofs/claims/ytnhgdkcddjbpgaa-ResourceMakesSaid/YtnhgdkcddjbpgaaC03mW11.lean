import Derived.Test.YtnhgdkcddjbpgaaC03mW10
import Derived.Test.YtnhgdkcddjbpgaaC03mAL4
/- What single functions compute: a part of the proof; no conditions. -/
set_option linter.unusedVariables false
set_option linter.unusedSimpArgs false
set_option maxRecDepth 100000
set_option linter.unusedSectionVars false
namespace Go.Proofs.Ytnhgdkcddjbpgaa.AL
open Go
attribute [local simp] qf cv qbin ibin sbin qun retPost rvOk ctV ctPost marksOk retV resAll resOf V.lt ltL V.ren renL V.exp V.exp1 cleanL V.clean closedL V.closed V.cells V.one V.tree
  loadV cellsAt isNC nilQ isSlD isIfD slNew ownRows ownCells V.isOwn slStore srcO qlook mlook mget mstr zval qnone qmake mput lmap isAggD placesOf fillV putCells lstore bound seqParts V.sh shL Blk.sh newV V.ok peqs peq srcRows appOk mmV mmR hidE V.fz fzL Blk.fz fzOk and_assoc
attribute [-simp] Int.not_le Int.not_lt Nat.not_le Nat.not_lt
def SEachUnn : List V → Option Res
  | [.agg ca, .agg cb, .fn 47 [] []] => match rsOf ca, rsOf cb with
    | some a, some b => if inRS a ∧ inRS b ∧ lenRS 1000000 a ∧ lenRS 1000000 b then
        (if orE2 (chkR a) (chkR b) ≠ 0 then some ⟨.tup [.agg [.nils, .nils, .nils], .int .i64 (orE2 (chkR a) (chkR b))], []⟩
          else if big3 (unnS a.l4 b.l4) (unnS a.l6 b.l6) (unnS (a.la.map wideS) (b.la.map wideS)) = true then some ⟨.tup [.agg [.nils, .nils, .nils], .int .i64 4], []⟩
          else some ⟨.tup [.agg [.own 0, .own 1, .own 2], .int .i64 0], [.sl 4 55 (sRows (unnS a.l4 b.l4)), .sl 4 55 (sRows (unnS a.l6 b.l6)), .sl 2 57 (aRows ((unnS (a.la.map wideS) (b.la.map wideS)).map narS))]⟩) else none
    | _, _ => none
  | _ => none
theorem runs_each_Unn : ∀ args r, SEachUnn args = some r → Runs Try.prog 46 args r := by
  intro args r hh
  unfold SEachUnn at hh
  split at hh
  · rename_i ca cb
    split at hh
    · rename_i a b ha hb
      split at hh
      · rename_i hin
        obtain ⟨ia, ib, la, lb⟩ := hin
        have h1 := rsOf_eq ha
        have h2 := rsOf_eq hb
        subst h1 h2
        have ea := chkR_at ia la
        have eb := chkR_at ib lb
        have sa := sets_at ia la
        have sb := sets_at ib lb
        have hT : (((((T0.add 20 SChkR).add 27 SOr2).add 28 SSets).add 47 SUn1).add 43 SMade).ok Try.prog :=
          Tab.add_ok (Tab.add_ok (Tab.add_ok (Tab.add_ok (Tab.add_ok (T0_ok _) runs_resource_Check) runs_cmp_Or_Errno) runs_resource_sets) runs_Union_1) runs_made
        refine Runs.of_body Try.func46 (by decide) rfl (by simp [Try.f46]) ?_
        by_cases hz : orE2 (chkR a) (chkR b) = 0
        · rw [if_neg (by omega)] at hh
          have hca : chkR a = 0 := by unfold orE2 at hz; split at hz <;> omega
          have hcb : chkR b = 0 := by unfold orE2 at hz; rw [if_pos hca] at hz; exact hz
          have ka := chkR_len hca
          have kb := chkR_len hcb
          have l1 : (a.la.map wideS).length ≤ 200 := by rw [List.length_map]; exact ka.2.2
          have l2 : (b.la.map wideS).length ≤ 200 := by rw [List.length_map]; exact kb.2.2
          have wa : ∀ s ∈ a.la.map wideS, inSP s := fun s hs => by obtain ⟨t, ht, rfl⟩ := List.mem_map.1 hs; exact inSP_wide (ia.2.2 t ht)
          have wb : ∀ s ∈ b.la.map wideS, inSP s := fun s hs => by obtain ⟨t, ht, rfl⟩ := List.mem_map.1 hs; exact inSP_wide (ib.2.2 t ht)
          have u4 := un1_at' (a := a.l4) (b := b.l4) ia.1 ib.1 ka.1 kb.1
          have u6 := un1_at' (a := a.l6) (b := b.l6) ia.2.1 ib.2.1 ka.2.1 kb.2.1
          have ua := un1_at' wa wb l1 l2
          have m := made_at (a := unnS a.l4 b.l4) (b := unnS a.l6 b.l6) (c := unnS (a.la.map wideS) (b.la.map wideS)) (unn_bd _ _ ka.1 kb.1) (unn_bd _ _ ka.2.1 kb.2.1) (unn_bd _ _ l1 l2)
          rw [hca] at ea
          rw [hcb] at eb
          simp only [RS.cells] at *
          generalize unnS a.l4 b.l4 = O4 at *
          generalize unnS a.l6 b.l6 = O6 at *
          generalize unnS (a.la.map wideS) (b.la.map wideS) = OA at *
          generalize sRows a.l4 = a4 at *
          generalize sRows a.l6 = a6 at *
          generalize aRows a.la = aa at *
          generalize sRows (a.la.map wideS) = aw at *
          generalize sRows b.l4 = b4 at *
          generalize sRows b.l6 = b6 at *
          generalize aRows b.la = ba at *
          generalize sRows (b.la.map wideS) = bw at *
          refine W.seqE hT mixed M_f46 (by kernel_rfl) ?_
          simp [Try.f46]
          refine W.cut True [(2, .fn 47 [] []), (3, .ptr 0 0), (4, .ptr 1 0), (6, .ptr 2 0)] [.box 25 [.rd 4 a4, .rd 4 a6, .rd 2 aa], .box 25 [.rd 4 b4, .rd 4 b6, .rd 2 ba], .box 25 [.nils, .nils, .nils]] 44 ?_ ?_
          · refine W.of_WE hT mixed M_f46 _ (by kernel_rfl) ?_
            simp [ea, eb, SOr2]
          intro _
          refine W.cut True [(2, .fn 47 [] []), (6, .ptr 0 0), (9, .ptr 1 0), (10, .ptr 2 0)] [.box 25 [.nils, .nils, .nils], .box 64 [.rd 4 a4, .rd 4 a6, .rd 4 aw], .box 64 [.rd 4 b4, .rd 4 b6, .rd 4 bw]] 44 ?_ ?_
          · refine W.of_WE hT mixed M_f46 _ (by kernel_rfl) ?_
            simp [sa, sb]
          intro _
          refine W.wk (Wk.freeze 2 (.box 64 [.rd 4 b4, .rd 4 b6, .rd 4 bw]) (by simp) (by simp)) ?_
          refine W.cut True [(6, .ptr 0 0), (9, .ptr 1 0)] [.box 25 [.nils, .nils, .nils], .box 64 [.rd 4 (sRows O4), .rd 4 (sRows O6), .rd 4 (sRows OA)]] 44 ?_ ?_
          · refine W.seqE hT mixed M_f46 (by kernel_rfl) ?_
            simp [Try.f46]
            refine W.block (W.for (fun _ => True) (fun k => [(2, .fn 47 [] []), (6, .ptr 0 0), (9, .ptr 1 0), (10, .rptr [.rd 4 b4, .rd 4 b6, .rd 4 bw] 0), (26, .int .i64 k)])
              (fun k => [.box 25 [.nils, .nils, .nils], .box 64 [.rd 4 (if 0 < k then sRows O4 else a4), .rd 4 (if 1 < k then sRows O6 else a6), .rd 4 (if 2 < k then sRows OA else aw)]]) 44 3 trivial ?_ ?_)
            · simp
            · intro k hk _
              match k, hk with
              | 0, _ =>
                refine W.seqE hT mixed M_f46 (by kernel_rfl) ?_
                simp
                refine W.seqE hT mixed M_f46 (by kernel_rfl) ?_
                simp
                refine W.cut True [(2, .fn 47 [] []), (6, .ptr 0 0), (9, .ptr 1 0), (10, .rptr [.rd 4 b4, .rd 4 b6, .rd 4 bw] 0), (26, .int .i64 0)] [.box 25 [.nils, .nils, .nils], .box 64 [.own 2, .rd 4 a6, .rd 4 aw], .sl 4 55 (sRows O4)] 44 ?_ ?_
                · refine W.of_WE hT mixed M_f46 _ (by kernel_rfl) ?_
                  simp [u4]
                intro _
                refine W.wk (Wk.freeze 2 (.sl 4 55 (sRows O4)) (by simp) (by simp)) ?_
                refine W.of_WE hT mixed M_f46 _ (by kernel_rfl) ?_
                simp
                rfl
              | 1, _ =>
                refine W.seqE hT mixed M_f46 (by kernel_rfl) ?_
                simp
                refine W.seqE hT mixed M_f46 (by kernel_rfl) ?_
                simp
                refine W.cut True [(2, .fn 47 [] []), (6, .ptr 0 0), (9, .ptr 1 0), (10, .rptr [.rd 4 b4, .rd 4 b6, .rd 4 bw] 0), (26, .int .i64 1)] [.box 25 [.nils, .nils, .nils], .box 64 [.rd 4 (sRows O4), .own 2, .rd 4 aw], .sl 4 55 (sRows O6)] 44 ?_ ?_
                · refine W.of_WE hT mixed M_f46 _ (by kernel_rfl) ?_
                  simp [u6]
                intro _
                refine W.wk (Wk.freeze 2 (.sl 4 55 (sRows O6)) (by simp) (by simp)) ?_
                refine W.of_WE hT mixed M_f46 _ (by kernel_rfl) ?_
                simp
                rfl
              | 2, _ =>
                refine W.seqE hT mixed M_f46 (by kernel_rfl) ?_
                simp
                refine W.seqE hT mixed M_f46 (by kernel_rfl) ?_
                simp
                refine W.cut True [(2, .fn 47 [] []), (6, .ptr 0 0), (9, .ptr 1 0), (10, .rptr [.rd 4 b4, .rd 4 b6, .rd 4 bw] 0), (26, .int .i64 2)] [.box 25 [.nils, .nils, .nils], .box 64 [.rd 4 (sRows O4), .rd 4 (sRows O6), .own 2], .sl 4 55 (sRows OA)] 44 ?_ ?_
                · refine W.of_WE hT mixed M_f46 _ (by kernel_rfl) ?_
                  simp [ua]
                intro _
                refine W.wk (Wk.freeze 2 (.sl 4 55 (sRows OA)) (by simp) (by simp)) ?_
                refine W.of_WE hT mixed M_f46 _ (by kernel_rfl) ?_
                simp
                rfl
              | 3, _ =>
                refine W.of_WE hT mixed M_f46 _ (by kernel_rfl) ?_
                simp
          intro _
          refine W.of_WE hT mixed M_f46 _ (by kernel_rfl) ?_
          cases hb : big3 O4 O6 OA
          · rw [hb] at hh m
            cases hh
            simp only [Bool.false_eq_true, if_false] at m
            simp [Try.f46, m]
            exact ⟨10, 11, by decide, 12, by decide, by decide, by simp, by simp, by simp, rfl, rfl, rfl⟩
          · rw [hb] at hh m
            cases hh
            simp only [if_true] at m
            simp [Try.f46, m]
        · rw [if_pos hz] at hh
          cases hh
          simp only [RS.cells] at *
          refine W.of_WE hT mixed M_f46 _ (by kernel_rfl) ?_
          unfold orE2 at hz
          by_cases hca : chkR a = 0
          · rw [if_pos hca] at hz
            simp [Try.f46, ea, eb, SOr2, hca, hz, orE2]
          · simp [Try.f46, ea, eb, SOr2, hca, orE2]
      · cases hh
    · cases hh
  · cases hh

end Go.Proofs.Ytnhgdkcddjbpgaa.AL
namespace Go.Proofs.Ytnhgdkcddjbpgaa.AL
open Go
attribute [local simp] qf cv qbin ibin sbin qun retPost rvOk ctV ctPost marksOk retV resAll resOf V.lt ltL V.ren renL V.exp V.exp1 cleanL V.clean closedL V.closed V.cells V.one V.tree
  loadV cellsAt isNC nilQ isSlD isIfD slNew ownRows ownCells V.isOwn slStore srcO qlook mlook mget mstr zval qnone qmake mput lmap isAggD placesOf fillV putCells lstore bound seqParts V.sh shL Blk.sh newV V.ok peqs peq srcRows appOk mmV mmR hidE V.fz fzL Blk.fz fzOk and_assoc
attribute [-simp] Int.not_le Int.not_lt Nat.not_le Nat.not_lt
def SRUnion : List V → Option Res
  | [.agg ca, .agg cb] => match rsOf ca, rsOf cb with
    | some a, some b => if inRS a ∧ inRS b ∧ lenRS 1000000 a ∧ lenRS 1000000 b then
        (if orE2 (chkR a) (chkR b) ≠ 0 then some ⟨.tup [.agg [.nils, .nils, .nils], .int .i64 (orE2 (chkR a) (chkR b))], []⟩ else SAllD [.int .i64 0, .agg a.cells, .agg b.cells]) else none
    | _, _ => none
  | _ => none
def M_f19 : Md := fun i => some #[]
@[simp] theorem M_f19_eq {i : Nat} : M_f19 i = (some #[]) := rfl
theorem runs_ref03_Union : ∀ args r, SRUnion args = some r → Runs Try.prog 19 args r := by
  intro args r hh
  unfold SRUnion at hh
  split at hh
  · rename_i ca cb
    split at hh
    · rename_i a b ha hb
      split at hh
      · rename_i hin
        have h1 := rsOf_eq ha
        have h2 := rsOf_eq hb
        subst h1 h2
        have hB : SBoth [.agg a.cells, .agg b.cells] = some ⟨.int .i64 (orE2 (chkR a) (chkR b)), []⟩ := by
          simp only [SBoth, rsOf_cells]; rw [if_pos hin]
        obtain ⟨ia, ib, la, lb⟩ := hin
        have hT : ((T0.add 30 SBoth).add 45 SAllD).ok Try.prog := Tab.add_ok (Tab.add_ok (T0_ok _) runs_ref03_Both) runs_ref03_All
        refine Runs.of_body Try.func19 (by decide) rfl (by simp [Try.f19]) ?_
        by_cases hz : orE2 (chkR a) (chkR b) = 0
        · rw [if_neg (by omega)] at hh
          rw [hz] at hB
          have hca : chkR a = 0 := by unfold orE2 at hz; split at hz <;> omega
          have hcb : chkR b = 0 := by unfold orE2 at hz; rw [if_pos hca] at hz; exact hz
          have hA := hh
          unfold SAllD at hh
          simp only [rsOf_cells] at hh
          have ka := chkR_len hca
          have kb := chkR_len hcb
          rw [if_pos ⟨ia, ib, ⟨by have := ka.1; omega, by have := ka.2.1; omega, by have := ka.2.2; omega⟩, ⟨by have := kb.1; omega, by have := kb.2.1; omega, by have := kb.2.2; omega⟩⟩] at hh
          simp only [RS.cells] at hB hA ⊢
          refine W.of_WE hT mixed M_f19 _ (by kernel_rfl) ?_
          split at hh
          · cases hh
            simp [Try.f19, hB, hA]
          · cases hh
            simp [Try.f19, hB, hA]
        · rw [if_pos hz] at hh
          cases hh
          simp only [RS.cells] at hB ⊢
          refine W.of_WE hT mixed M_f19 _ (by kernel_rfl) ?_
          simp [Try.f19, hB, hz]
      · cases hh
    · cases hh
  · cases hh

def SRInter : List V → Option Res
  | [.agg ca, .agg cb] => match rsOf ca, rsOf cb with
    | some a, some b => if inRS a ∧ inRS b ∧ lenRS 1000000 a ∧ lenRS 1000000 b then
        (if orE2 (chkR a) (chkR b) ≠ 0 then some ⟨.tup [.agg [.nils, .nils, .nils], .int .i64 (orE2 (chkR a) (chkR b))], []⟩ else SAllD [.int .i64 1, .agg a.cells, .agg b.cells]) else none
    | _, _ => none
  | _ => none
def M_f23 : Md := fun i => some #[]
@[simp] theorem M_f23_eq {i : Nat} : M_f23 i = (some #[]) := rfl
theorem runs_ref03_Inter : ∀ args r, SRInter args = some r → Runs Try.prog 23 args r := by
  intro args r hh
  unfold SRInter at hh
  split at hh
  · rename_i ca cb
    split at hh
    · rename_i a b ha hb
      split at hh
      · rename_i hin
        have h1 := rsOf_eq ha
        have h2 := rsOf_eq hb
        subst h1 h2
        have hB : SBoth [.agg a.cells, .agg b.cells] = some ⟨.int .i64 (orE2 (chkR a) (chkR b)), []⟩ := by
          simp only [SBoth, rsOf_cells]; rw [if_pos hin]
        obtain ⟨ia, ib, la, lb⟩ := hin
        have hT : ((T0.add 30 SBoth).add 45 SAllD).ok Try.prog := Tab.add_ok (Tab.add_ok (T0_ok _) runs_ref03_Both) runs_ref03_All
        refine Runs.of_body Try.func23 (by decide) rfl (by simp [Try.f23]) ?_
        by_cases hz : orE2 (chkR a) (chkR b) = 0
        · rw [if_neg (by omega)] at hh
          rw [hz] at hB
          have hca : chkR a = 0 := by unfold orE2 at hz; split at hz <;> omega
          have hcb : chkR b = 0 := by unfold orE2 at hz; rw [if_pos hca] at hz; exact hz
          have hA := hh
          unfold SAllD at hh
          simp only [rsOf_cells] at hh
          have ka := chkR_len hca
          have kb := chkR_len hcb
          rw [if_pos ⟨ia, ib, ⟨by have := ka.1; omega, by have := ka.2.1; omega, by have := ka.2.2; omega⟩, ⟨by have := kb.1; omega, by have := kb.2.1; omega, by have := kb.2.2; omega⟩⟩] at hh
          simp only [RS.cells] at hB hA ⊢
          refine W.of_WE hT mixed M_f23 _ (by kernel_rfl) ?_
          split at hh
          · cases hh
            simp [Try.f23, hB, hA]
          · cases hh
            simp [Try.f23, hB, hA]
        · rw [if_pos hz] at hh
          cases hh
          simp only [RS.cells] at hB ⊢
          refine W.of_WE hT mixed M_f23 _ (by kernel_rfl) ?_
          simp [Try.f23, hB, hz]
      · cases hh
    · cases hh
  · cases hh

def SRMinus : List V → Option Res
  | [.agg ca, .agg cb] => match rsOf ca, rsOf cb with
    | some a, some b => if inRS a ∧ inRS b ∧ lenRS 1000000 a ∧ lenRS 1000000 b then
        (if orE2 (chkR a) (chkR b) ≠ 0 then some ⟨.tup [.agg [.nils, .nils, .nils], .int .i64 (orE2 (chkR a) (chkR b))], []⟩ else SAllD [.int .i64 2, .agg a.cells, .agg b.cells]) else none
    | _, _ => none
  | _ => none
def M_f25 : Md := fun i => some #[]
@[simp] theorem M_f25_eq {i : Nat} : M_f25 i = (some #[]) := rfl
theorem runs_ref03_Minus : ∀ args r, SRMinus args = some r → Runs Try.prog 25 args r := by
  intro args r hh
  unfold SRMinus at hh
  split at hh
  · rename_i ca cb
    split at hh
    · rename_i a b ha hb
      split at hh
      · rename_i hin
        have h1 := rsOf_eq ha
        have h2 := rsOf_eq hb
        subst h1 h2
        have hB : SBoth [.agg a.cells, .agg b.cells] = some ⟨.int .i64 (orE2 (chkR a) (chkR b)), []⟩ := by
          simp only [SBoth, rsOf_cells]; rw [if_pos hin]
        obtain ⟨ia, ib, la, lb⟩ := hin
        have hT : ((T0.add 30 SBoth).add 45 SAllD).ok Try.prog := Tab.add_ok (Tab.add_ok (T0_ok _) runs_ref03_Both) runs_ref03_All
        refine Runs.of_body Try.func25 (by decide) rfl (by simp [Try.f25]) ?_
        by_cases hz : orE2 (chkR a) (chkR b) = 0
        · rw [if_neg (by omega)] at hh
          rw [hz] at hB
          have hca : chkR a = 0 := by unfold orE2 at hz; split at hz <;> omega
          have hcb : chkR b = 0 := by unfold orE2 at hz; rw [if_pos hca] at hz; exact hz
          have hA := hh
          unfold SAllD at hh
          simp only [rsOf_cells] at hh
          have ka := chkR_len hca
          have kb := chkR_len hcb
          rw [if_pos ⟨ia, ib, ⟨by have := ka.1; omega, by have := ka.2.1; omega, by have := ka.2.2; omega⟩, ⟨by have := kb.1; omega, by have := kb.2.1; omega, by have := kb.2.2; omega⟩⟩] at hh
          simp only [RS.cells] at hB hA ⊢
          refine W.of_WE hT mixed M_f25 _ (by kernel_rfl) ?_
          split at hh
          · cases hh
            simp [Try.f25, hB, hA]
          · cases hh
            simp [Try.f25, hB, hA]
        · rw [if_pos hz] at hh
          cases hh
          simp only [RS.cells] at hB ⊢
          refine W.of_WE hT mixed M_f25 _ (by kernel_rfl) ?_
          simp [Try.f25, hB, hz]
      · cases hh
    · cases hh
  · cases hh

end Go.Proofs.Ytnhgdkcddjbpgaa.AL
namespace Go.Proofs.Ytnhgdkcddjbpgaa.AL
open Go
attribute [local simp] qf cv qbin ibin sbin qun retPost rvOk ctV ctPost marksOk retV resAll resOf V.lt ltL V.ren renL V.exp V.exp1 cleanL V.clean closedL V.closed V.cells V.one V.tree
  loadV cellsAt isNC nilQ isSlD isIfD slNew ownRows ownCells V.isOwn slStore srcO qlook mlook mget mstr zval qnone qmake mput lmap isAggD placesOf fillV putCells lstore bound seqParts V.sh shL Blk.sh newV V.ok peqs peq srcRows appOk mmV mmR hidE V.fz fzL Blk.fz fzOk and_assoc
attribute [-simp] Int.not_le Int.not_lt Nat.not_le Nat.not_lt
def SOInt : List V → Option Res
  | [.agg ca, .agg cb] => SEachInt [.agg ca, .agg cb, .fn 52 [] []]
  | _ => none
theorem eachInt_cases {a b : RS} {r : Res} (h : SOInt [.agg a.cells, .agg b.cells] = some r) :
    (∃ c, r = ⟨.tup [.agg [.nils, .nils, .nils], .int .i64 c], []⟩) ∨ ∃ A B C, r = ⟨.tup [.agg [.own 0, .own 1, .own 2], .int .i64 0], [.sl 4 55 (sRows A), .sl 4 55 (sRows B), .sl 2 57 (aRows C)]⟩ := by
  simp only [SOInt, SEachInt, rsOf_cells] at h
  split at h
  · split at h
    · cases h; exact .inl ⟨_, rfl⟩
    · split at h
      · cases h; exact .inl ⟨_, rfl⟩
      · cases h; exact .inr ⟨_, _, _, rfl⟩
  · cases h
theorem runs_resource_Int : ∀ args r, SOInt args = some r → Runs Try.prog 22 args r := by
  intro args r hh
  unfold SOInt at hh
  split at hh
  · rename_i ca cb
    obtain ⟨a, ha⟩ : ∃ a, rsOf ca = some a := by
      cases h : rsOf ca with
      | none => simp [SEachInt, h] at hh
      | some a => exact ⟨a, rfl⟩
    obtain ⟨b, hb⟩ : ∃ b, rsOf cb = some b := by
      cases h : rsOf cb with
      | none => simp [SEachInt, ha, h] at hh
      | some b => exact ⟨b, rfl⟩
    have h1 := rsOf_eq ha
    have h2 := rsOf_eq hb
    subst h1 h2
    have hT : (T0.add 46 SEachInt).ok Try.prog := Tab.add_ok (T0_ok _) runs_each_Int
    have hc := eachInt_cases (a := a) (b := b) hh
    refine Runs.of_body Try.func22 (by decide) rfl (by simp [Try.f22]) ?_
    simp only [RS.cells] at hh ⊢
    refine W.of_WE hT mixed M0 _ (by kernel_rfl) ?_
    rcases hc with ⟨c, rfl⟩ | ⟨A, B, C, rfl⟩
    · simp [Try.f22, hh]
    · simp [Try.f22, hh]
      refine ⟨48, 49, by decide, 50, by decide, by decide, ?_⟩
      simp
  · cases hh

def SOMin : List V → Option Res
  | [.agg ca, .agg cb] => SEachMin [.agg ca, .agg cb, .fn 29 [] []]
  | _ => none
theorem eachMin_cases {a b : RS} {r : Res} (h : SOMin [.agg a.cells, .agg b.cells] = some r) :
    (∃ c, r = ⟨.tup [.agg [.nils, .nils, .nils], .int .i64 c], []⟩) ∨ ∃ A B C, r = ⟨.tup [.agg [.own 0, .own 1, .own 2], .int .i64 0], [.sl 4 55 (sRows A), .sl 4 55 (sRows B), .sl 2 57 (aRows C)]⟩ := by
  simp only [SOMin, SEachMin, rsOf_cells] at h
  split at h
  · split at h
    · cases h; exact .inl ⟨_, rfl⟩
    · split at h
      · cases h; exact .inl ⟨_, rfl⟩
      · cases h; exact .inr ⟨_, _, _, rfl⟩
  · cases h
theorem runs_resource_Min : ∀ args r, SOMin args = some r → Runs Try.prog 24 args r := by
  intro args r hh
  unfold SOMin at hh
  split at hh
  · rename_i ca cb
    obtain ⟨a, ha⟩ : ∃ a, rsOf ca = some a := by
      cases h : rsOf ca with
      | none => simp [SEachMin, h] at hh
      | some a => exact ⟨a, rfl⟩
    obtain ⟨b, hb⟩ : ∃ b, rsOf cb = some b := by
      cases h : rsOf cb with
      | none => simp [SEachMin, ha, h] at hh
      | some b => exact ⟨b, rfl⟩
    have h1 := rsOf_eq ha
    have h2 := rsOf_eq hb
    subst h1 h2
    have hT : (T0.add 46 SEachMin).ok Try.prog := Tab.add_ok (T0_ok _) runs_each_Min
    have hc := eachMin_cases (a := a) (b := b) hh
    refine Runs.of_body Try.func24 (by decide) rfl (by simp [Try.f24]) ?_
    simp only [RS.cells] at hh ⊢
    refine W.of_WE hT mixed M0 _ (by kernel_rfl) ?_
    rcases hc with ⟨c, rfl⟩ | ⟨A, B, C, rfl⟩
    · simp [Try.f24, hh]
    · simp [Try.f24, hh]
      refine ⟨48, 49, by decide, 50, by decide, by decide, ?_⟩
      simp
  · cases hh

def SOUnn : List V → Option Res
  | [.agg ca, .agg cb] => SEachUnn [.agg ca, .agg cb, .fn 47 [] []]
  | _ => none
theorem eachUnn_cases {a b : RS} {r : Res} (h : SOUnn [.agg a.cells, .agg b.cells] = some r) :
    (∃ c, r = ⟨.tup [.agg [.nils, .nils, .nils], .int .i64 c], []⟩) ∨ ∃ A B C, r = ⟨.tup [.agg [.own 0, .own 1, .own 2], .int .i64 0], [.sl 4 55 (sRows A), .sl 4 55 (sRows B), .sl 2 57 (aRows C)]⟩ := by
  simp only [SOUnn, SEachUnn, rsOf_cells] at h
  split at h
  · split at h
    · cases h; exact .inl ⟨_, rfl⟩
    · split at h
      · cases h; exact .inl ⟨_, rfl⟩
      · cases h; exact .inr ⟨_, _, _, rfl⟩
  · cases h
theorem runs_resource_Unn : ∀ args r, SOUnn args = some r → Runs Try.prog 18 args r := by
  intro args r hh
  unfold SOUnn at hh
  split at hh
  · rename_i ca cb
    obtain ⟨a, ha⟩ : ∃ a, rsOf ca = some a := by
      cases h : rsOf ca with
      | none => simp [SEachUnn, h] at hh
      | some a => exact ⟨a, rfl⟩
    obtain ⟨b, hb⟩ : ∃ b, rsOf cb = some b := by
      cases h : rsOf cb with
      | none => simp [SEachUnn, ha, h] at hh
      | some b => exact ⟨b, rfl⟩
    have h1 := rsOf_eq ha
    have h2 := rsOf_eq hb
    subst h1 h2
    have hT : (T0.add 46 SEachUnn).ok Try.prog := Tab.add_ok (T0_ok _) runs_each_Unn
    have hc := eachUnn_cases (a := a) (b := b) hh
    refine Runs.of_body Try.func18 (by decide) rfl (by simp [Try.f18]) ?_
    simp only [RS.cells] at hh ⊢
    refine W.of_WE hT mixed M0 _ (by kernel_rfl) ?_
    rcases hc with ⟨c, rfl⟩ | ⟨A, B, C, rfl⟩
    · simp [Try.f18, hh]
    · simp [Try.f18, hh]
      refine ⟨48, 49, by decide, 50, by decide, by decide, ?_⟩
      simp
  · cases hh

end Go.Proofs.Ytnhgdkcddjbpgaa.AL
namespace Go.Proofs.Ytnhgdkcddjbpgaa.AL
open Go
attribute [local simp] qf cv qbin ibin sbin qun retPost rvOk ctV ctPost marksOk retV resAll resOf V.lt ltL V.ren renL V.exp V.exp1 cleanL V.clean closedL V.closed V.cells V.one V.tree
  loadV cellsAt isNC nilQ isSlD isIfD slNew ownRows ownCells V.isOwn slStore srcO qlook mlook mget mstr zval qnone qmake mput lmap isAggD placesOf fillV putCells lstore bound seqParts V.sh shL Blk.sh newV V.ok peqs peq srcRows appOk mmV mmR hidE V.fz fzL Blk.fz fzOk and_assoc
attribute [-simp] Int.not_le Int.not_lt Nat.not_le Nat.not_lt
def STwR : List V → Option Res
  | [.agg cs] => match rsOf cs with
    | some r => if lenRS 1000 r then some ⟨.agg [.own 0, .own 1, .own 2], [.sl 4 55 (sRows r.l4), .sl 4 55 (sRows r.l6), .sl 2 57 (aRows r.la)]⟩ else none
    | none => none
  | _ => none
def M_f15 : Md := fun i => if i = 1 then some #[0, 0, 2, 7, 0, 0, 32, 127, 0, 0, 512, 2047, 4095, 8191, 0, 0, 0, 0, 1360, 0, 0, 0, 1280] else some #[]
@[simp] theorem M_f15_eq {i : Nat} : M_f15 i = (if i = 1 then some #[0, 0, 2, 7, 0, 0, 32, 127, 0, 0, 512, 2047, 4095, 8191, 0, 0, 0, 0, 1360, 0, 0, 0, 1280] else some #[]) := rfl
theorem runs_ref03_Twin : ∀ args r, STwR args = some r → Runs Try.prog 15 args r := by
  intro args r hh
  unfold STwR at hh
  split at hh
  · rename_i cs
    split at hh
    · rename_i q hq
      split at hh
      · rename_i hlen
        cases hh
        have h1 := rsOf_eq hq
        subst h1
        have l4 : (sRows q.l4).length ≤ 1000 := by rw [sRows_len]; exact hlen.1
        have l6 : (sRows q.l6).length ≤ 1000 := by rw [sRows_len]; exact hlen.2.1
        have la : (aRows q.la).length ≤ 1000 := by rw [aRows_len]; exact hlen.2.2
        simp only [RS.cells]
        generalize sRows q.l4 = R4 at *
        generalize sRows q.l6 = R6 at *
        generalize aRows q.la = RA at *
        refine Runs.of_body Try.func15 (by decide) rfl (by simp [Try.f15]) ?_
        refine W.of_WE (T0_ok _) mixed M_f15 _ (by kernel_rfl) ?_
        simp [Try.f15]
        exact ⟨by omega, by omega, by omega, by omega, by omega, by omega, 40, 72, by decide, 104, by decide, by decide, by simp⟩
      · cases hh
    · cases hh
  · cases hh

end Go.Proofs.Ytnhgdkcddjbpgaa.AL
namespace Go.Proofs.Ytnhgdkcddjbpgaa.AL
open Go
section
variable {P : Program} [Gl P]
theorem norm_wk {s : St} (ns : List Nat) {l : List (Nat × V)} {h : List Blk} {nt : Nat} (hk : wkOkx ns l h { nt := nt } s) : Wk P s (mk l h nt) := Wk.mk hk
/-- A cut behind which the state may be brought into form by what weakens it. -/
theorem W.cutw {a b : Code} {s : St} {Q : AX → St → Prop} (C : Prop) (l : List (Nat × V)) (h : List Blk) (nt : Nat)
    (h1 : W P a s (thenA (fun s' => C ∧ Wk P s' (mk l h nt)) Q)) (h2 : C → W P b (mk l h nt) Q) : W P (.seq a b) s Q :=
  W.seq (W.mono h1 fun e s' hq => by
    cases e with
    | normal => exact W.wk hq.2 (h2 hq.1)
    | _ => exact hq)
/-- What a box holds, told more weakly. -/
theorem Wk.weakB {s : St} (b : Nat) {bt : TypeId} {cells : List V} (cells' : List V) (hb : s.hp b = some (.box bt cells)) (h : ∀ E vs, RL E cells vs → RL E cells' vs) : Wk P s (s.setB b (.box bt cells')) := by
  intro X E a hs
  obtain ⟨hD, hB⟩ := hs.hp.blk b _ hb
  refine ⟨E, rfl, ⟨⟨⟨⟨fun y z hz => ?_, fun y y' z z' g hz hz' hg hg' => ?_⟩, hs.gl, hs.AO, hs.Fz, hs.OA, hs.Oz⟩, hs.top, hs.kp, hs.defers, hs.nt, hs.tm⟩, hs.nx⟩⟩
  · by_cases e : y = b
    · subst e
      simp only [St.setB, upd_same, Option.some.injEq] at hz
      subst hz
      refine ⟨hD, ?_⟩
      simp only [BRel] at hB ⊢
      obtain ⟨g, arr, h1, h2, h3, h4⟩ := hB
      exact ⟨g, arr, h1, h2, h _ _ h3, h4⟩
    · simp only [St.setB, upd_other _ _ e] at hz
      exact hs.hp.blk y z hz
  · have key : ∀ y z, (upd s.hp b (some (.box bt cells'))) y = some z → ∃ z0, s.hp y = some z0 := by
      intro y z hz
      by_cases e : y = b
      · subst e; exact ⟨_, hb⟩
      · rw [upd_other _ _ e] at hz; exact ⟨_, hz⟩
    obtain ⟨z0, h0⟩ := key y z hz
    obtain ⟨z1, h1⟩ := key y' z' hz'
    exact hs.hp.sep y y' z0 z1 g h0 h1 hg hg'
theorem nils_RL (E : Env) (vs : List Value) (h : RL E [.nils, .nils, .nils] vs) : RL E [.rd 4 [], .rd 4 [], .rd 2 []] vs := by
  simp only [RL] at h ⊢
  obtain ⟨w1, ws1, rfl, g1, w2, ws2, rfl, g2, w3, ws3, rfl, g3, rfl⟩ := h
  exact ⟨_, _, rfl, R_nils_rd 4 g1, _, _, rfl, R_nils_rd 4 g2, _, _, rfl, R_nils_rd 2 g3, rfl⟩
end
end Go.Proofs.Ytnhgdkcddjbpgaa.AL
namespace Go.Proofs.Ytnhgdkcddjbpgaa.AL
open Go
attribute [local simp] qf cv qbin ibin sbin qun retPost rvOk ctV ctPost marksOk retV resAll resOf V.lt ltL V.ren renL V.exp V.exp1 cleanL V.clean closedL V.closed V.cells V.one V.tree
  loadV cellsAt isNC nilQ isSlD isIfD slNew ownRows ownCells V.isOwn slStore srcO qlook mlook mget mstr zval qnone qmake mput lmap isAggD placesOf fillV putCells lstore bound seqParts V.sh shL Blk.sh newV V.ok peqs peq srcRows appOk mmV mmR hidE V.fz fzL Blk.fz fzOk and_assoc
attribute [-simp] Int.not_le Int.not_lt Nat.not_le Nat.not_lt
theorem vf_good {f : Int} {l : List SP} (hin : ∀ s ∈ l, inSP s) (hg : goodL f l = true) : ∀ s ∈ l, Vf f s := by
  intro s hs
  unfold goodL at hg
  rw [Bool.not_eq_true', List.any_eq_false] at hg
  have := hg s hs
  unfold badS at this
  simp only [decide_eq_true_eq, ne_eq, Decidable.not_not] at this
  exact vf_of this (hin s hs)
theorem union_nil {f : Int} (hf : f = 4 ∨ f = 6) {a : List SP} (ha : ∀ s ∈ a, Vf f s) : doneL 0 f a [] = unionS a := by
  have := union_done hf (a := a) (b := []) ha (fun s hs => by cases hs)
  rw [List.append_nil] at this
  exact this.symm
theorem inSP_vf {f : Int} {s : SP} (h : Vf f s) : inSP s := ⟨h.a.1, h.a.2.1, h.a.2.2.1, h.a.2.2.2, h.b.1, h.b.2.1, h.b.2.2.1, h.b.2.2.2⟩
theorem inAS_nar (s : SP) : inAS (narS s) := by
  unfold inAS narS
  simp only [wrap_u32]
  omega
/-- Two answers that tell the same: an error, or three lists of one's own here, three that are only read there. -/
def PairF (r r' : Res) (M : RS) (c : Int) : Prop :=
  (r = ⟨.tup [.agg [.nils, .nils, .nils], .int .i64 c], []⟩ ∧ r' = ⟨.tup [.agg [.nils, .nils, .nils], .int .i64 c], []⟩ ∧ M = RS0) ∨
  (r = ⟨.tup [.agg [.own 0, .own 1, .own 2], .int .i64 c], [.sl 4 55 (sRows M.l4), .sl 4 55 (sRows M.l6), .sl 2 57 (aRows M.la)]⟩ ∧ r' = ⟨.tup [.agg [.rd 4 (sRows M.l4), .rd 4 (sRows M.l6), .rd 2 (aRows M.la)], .int .i64 c], []⟩)
theorem big_len {a b c : List SP} (h : ¬ big3 a b c = true) : a.length ≤ 200 ∧ b.length ≤ 200 ∧ c.length ≤ 200 := by
  unfold big3 at h
  simp only [Bool.or_eq_true, decide_eq_true_eq, not_or] at h
  omega
theorem make_pair {a : RS} (ia : inRS a) (la : lenRS 1000000 a) : ∃ r r' M c, SMakeR [.agg a.cells] = some r ∧ SMakeD [.agg a.cells] = some r' ∧ PairF r r' M c ∧ inRS M ∧ lenRS 200 M := by
  have mR : SMakeR [.agg a.cells] = if chkdR a ≠ 0 then some ⟨.tup [.agg [.nils, .nils, .nils], .int .i64 (chkdR a)], []⟩
      else if big3 (unionS a.l4) (unionS a.l6) (unionS (a.la.map wideS)) = true then some ⟨.tup [.agg [.nils, .nils, .nils], .int .i64 4], []⟩
      else some ⟨.tup [.agg [.own 0, .own 1, .own 2], .int .i64 0], [.sl 4 55 (sRows (unionS a.l4)), .sl 4 55 (sRows (unionS a.l6)), .sl 2 57 (aRows ((unionS (a.la.map wideS)).map narS))]⟩ := by
    simp only [SMakeR, rsOf_cells]; rw [if_pos ⟨ia, la⟩]
  have mD : SMakeD [.agg a.cells] = if chkdR a ≠ 0 then some ⟨.tup [.agg [.nils, .nils, .nils], .int .i64 (chkdR a)], []⟩ else SAllD [.int .i64 0, .agg a.cells, .agg RS0.cells] := by
    simp only [SMakeD, rsOf_cells]; rw [if_pos ⟨ia, la⟩]
  rw [mR, mD]
  by_cases hc : chkdR a = 0
  · have nc : ¬ chkdR a ≠ 0 := by omega
    simp only [if_neg nc]
    have hg : goodL 4 a.l4 = true ∧ goodL 6 a.l6 = true ∧ goodL 4 (a.la.map wideS) = true := by
      unfold chkdR at hc
      split at hc
      · omega
      · split at hc
        · assumption
        · omega
    have wa : ∀ s ∈ a.la.map wideS, inSP s := fun s hs => by obtain ⟨t, ht, rfl⟩ := List.mem_map.1 hs; exact inSP_wide (ia.2.2 t ht)
    have e4 : D4 0 a RS0 = unionS a.l4 := union_nil (.inl rfl) (vf_good ia.1 hg.1)
    have e6 : D6 0 a RS0 = unionS a.l6 := union_nil (.inr rfl) (vf_good ia.2.1 hg.2.1)
    have eA : DA 0 a RS0 = unionS (a.la.map wideS) := union_nil (f := 4) (.inl rfl) (vf_good wa hg.2.2)
    have mA : SAllD [.int .i64 0, .agg a.cells, .agg RS0.cells] = if big3 (unionS a.l4) (unionS a.l6) (unionS (a.la.map wideS)) = true then some ⟨.tup [.agg [.nils, .nils, .nils], .int .i64 4], []⟩
        else some ⟨.tup [.agg [.rd 4 (sRows (unionS a.l4)), .rd 4 (sRows (unionS a.l6)), .rd 2 (aRows ((unionS (a.la.map wideS)).map narS))], .int .i64 0], []⟩ := by
      simp only [SAllD, rsOf_cells]
      rw [if_pos ⟨ia, inRS0, chkdR_len hc, lenRS0 _⟩, e4, e6, eA]
    rw [mA]
    by_cases hb : big3 (unionS a.l4) (unionS a.l6) (unionS (a.la.map wideS)) = true
    · simp only [if_pos hb]
      exact ⟨_, _, RS0, 4, rfl, rfl, .inl ⟨rfl, rfl, rfl⟩, inRS0, lenRS0 _⟩
    · simp only [if_neg hb]
      obtain ⟨b1, b2, b3⟩ := big_len hb
      exact ⟨_, _, ⟨unionS a.l4, unionS a.l6, (unionS (a.la.map wideS)).map narS⟩, 0, rfl, rfl, .inr ⟨rfl, rfl⟩, ⟨unionS_in ia.1, unionS_in ia.2.1, fun s hs => by obtain ⟨t, _, rfl⟩ := List.mem_map.1 hs; exact inAS_nar t⟩, ⟨b1, b2, by simpa using b3⟩⟩
  · simp only [if_pos (show chkdR a ≠ 0 from hc)]
    exact ⟨_, _, RS0, _, rfl, rfl, .inl ⟨rfl, rfl, rfl⟩, inRS0, lenRS0 _⟩

end Go.Proofs.Ytnhgdkcddjbpgaa.AL
namespace Go.Proofs.Ytnhgdkcddjbpgaa.AL
open Go
attribute [local simp] qf cv qbin ibin sbin qun retPost rvOk ctV ctPost marksOk retV resAll resOf V.lt ltL V.ren renL V.exp V.exp1 cleanL V.clean closedL V.closed V.cells V.one V.tree
  loadV cellsAt isNC nilQ isSlD isIfD slNew ownRows ownCells V.isOwn slStore srcO qlook mlook mget mstr zval qnone qmake mput lmap isAggD placesOf fillV putCells lstore bound seqParts V.sh shL Blk.sh newV V.ok peqs peq srcRows appOk mmV mmR hidE V.fz fzL Blk.fz fzOk and_assoc
attribute [-simp] Int.not_le Int.not_lt Nat.not_le Nat.not_lt
theorem pair_Int {a b : RS} (ia : inRS a) (ib : inRS b) (la : lenRS 1000000 a) (lb : lenRS 1000000 b) : ∃ r r' M c, SOInt [.agg a.cells, .agg b.cells] = some r ∧ SRInter [.agg a.cells, .agg b.cells] = some r' ∧ PairF r r' M c ∧ inRS M ∧ lenRS 200 M := by
  have mR : SOInt [.agg a.cells, .agg b.cells] = if orE2 (chkR a) (chkR b) ≠ 0 then some ⟨.tup [.agg [.nils, .nils, .nils], .int .i64 (orE2 (chkR a) (chkR b))], []⟩
      else if big3 (interS a.l4 b.l4) (interS a.l6 b.l6) (interS (a.la.map wideS) (b.la.map wideS)) = true then some ⟨.tup [.agg [.nils, .nils, .nils], .int .i64 4], []⟩
      else some ⟨.tup [.agg [.own 0, .own 1, .own 2], .int .i64 0], [.sl 4 55 (sRows (interS a.l4 b.l4)), .sl 4 55 (sRows (interS a.l6 b.l6)), .sl 2 57 (aRows ((interS (a.la.map wideS) (b.la.map wideS)).map narS))]⟩ := by
    simp only [SOInt, SEachInt, rsOf_cells]; rw [if_pos ⟨ia, ib, la, lb⟩]
  have mD : SRInter [.agg a.cells, .agg b.cells] = if orE2 (chkR a) (chkR b) ≠ 0 then some ⟨.tup [.agg [.nils, .nils, .nils], .int .i64 (orE2 (chkR a) (chkR b))], []⟩ else SAllD [.int .i64 1, .agg a.cells, .agg b.cells] := by
    simp only [SRInter, rsOf_cells]; rw [if_pos ⟨ia, ib, la, lb⟩]
  rw [mR, mD]
  by_cases hz : orE2 (chkR a) (chkR b) = 0
  · have nc : ¬ orE2 (chkR a) (chkR b) ≠ 0 := by omega
    simp only [if_neg nc]
    have hca : chkR a = 0 := by unfold orE2 at hz; split at hz <;> omega
    have hcb : chkR b = 0 := by unfold orE2 at hz; rw [if_pos hca] at hz; exact hz
    have ka := chkR_len hca
    have kb := chkR_len hcb
    have n4 : Nrm 4 a.l4 ∧ Nrm 4 b.l4 := ⟨nrm_lst ia hca (k := 0) (by omega), nrm_lst ib hcb (k := 0) (by omega)⟩
    have n6 : Nrm 6 a.l6 ∧ Nrm 6 b.l6 := ⟨nrm_lst ia hca (k := 1) (by omega), nrm_lst ib hcb (k := 1) (by omega)⟩
    have nA : Nrm 4 (a.la.map wideS) ∧ Nrm 4 (b.la.map wideS) := ⟨nrm_lst ia hca (k := 2) (by omega), nrm_lst ib hcb (k := 2) (by omega)⟩
    have e4 : D4 1 a b = interS a.l4 b.l4 := (inter_done (f := 4) (.inl rfl) n4.1 n4.2).symm
    have e6 : D6 1 a b = interS a.l6 b.l6 := (inter_done (f := 6) (.inr rfl) n6.1 n6.2).symm
    have eA : DA 1 a b = interS (a.la.map wideS) (b.la.map wideS) := (inter_done (f := 4) (.inl rfl) nA.1 nA.2).symm
    have i4 : ∀ s ∈ interS a.l4 b.l4, inSP s := fun s hs => by rw [← e4] at hs; exact inSP_vf ((doneL_spec (.inl rfl) n4.1.v n4.2.v).1.v s hs)
    have i6 : ∀ s ∈ interS a.l6 b.l6, inSP s := fun s hs => by rw [← e6] at hs; exact inSP_vf ((doneL_spec (.inr rfl) n6.1.v n6.2.v).1.v s hs)
    have mA : SAllD [.int .i64 1, .agg a.cells, .agg b.cells] = if big3 (interS a.l4 b.l4) (interS a.l6 b.l6) (interS (a.la.map wideS) (b.la.map wideS)) = true then some ⟨.tup [.agg [.nils, .nils, .nils], .int .i64 4], []⟩
        else some ⟨.tup [.agg [.rd 4 (sRows (interS a.l4 b.l4)), .rd 4 (sRows (interS a.l6 b.l6)), .rd 2 (aRows ((interS (a.la.map wideS) (b.la.map wideS)).map narS))], .int .i64 0], []⟩ := by
      simp only [SAllD, rsOf_cells]
      rw [if_pos ⟨ia, ib, ⟨by have := ka.1; omega, by have := ka.2.1; omega, by have := ka.2.2; omega⟩, ⟨by have := kb.1; omega, by have := kb.2.1; omega, by have := kb.2.2; omega⟩⟩, e4, e6, eA]
    rw [mA]
    by_cases hb : big3 (interS a.l4 b.l4) (interS a.l6 b.l6) (interS (a.la.map wideS) (b.la.map wideS)) = true
    · simp only [if_pos hb]
      exact ⟨_, _, RS0, 4, rfl, rfl, .inl ⟨rfl, rfl, rfl⟩, inRS0, lenRS0 _⟩
    · simp only [if_neg hb]
      obtain ⟨b1, b2, b3⟩ := big_len hb
      exact ⟨_, _, ⟨interS a.l4 b.l4, interS a.l6 b.l6, (interS (a.la.map wideS) (b.la.map wideS)).map narS⟩, 0, rfl, rfl, .inr ⟨rfl, rfl⟩, ⟨i4, i6, fun s hs => by obtain ⟨t, _, rfl⟩ := List.mem_map.1 hs; exact inAS_nar t⟩, ⟨b1, b2, by simpa using b3⟩⟩
  · simp only [if_pos (show orE2 (chkR a) (chkR b) ≠ 0 from hz)]
    exact ⟨_, _, RS0, _, rfl, rfl, .inl ⟨rfl, rfl, rfl⟩, inRS0, lenRS0 _⟩

theorem pair_Min {a b : RS} (ia : inRS a) (ib : inRS b) (la : lenRS 1000000 a) (lb : lenRS 1000000 b) : ∃ r r' M c, SOMin [.agg a.cells, .agg b.cells] = some r ∧ SRMinus [.agg a.cells, .agg b.cells] = some r' ∧ PairF r r' M c ∧ inRS M ∧ lenRS 200 M := by
  have mR : SOMin [.agg a.cells, .agg b.cells] = if orE2 (chkR a) (chkR b) ≠ 0 then some ⟨.tup [.agg [.nils, .nils, .nils], .int .i64 (orE2 (chkR a) (chkR b))], []⟩
      else if big3 (minS a.l4 b.l4) (minS a.l6 b.l6) (minS (a.la.map wideS) (b.la.map wideS)) = true then some ⟨.tup [.agg [.nils, .nils, .nils], .int .i64 4], []⟩
      else some ⟨.tup [.agg [.own 0, .own 1, .own 2], .int .i64 0], [.sl 4 55 (sRows (minS a.l4 b.l4)), .sl 4 55 (sRows (minS a.l6 b.l6)), .sl 2 57 (aRows ((minS (a.la.map wideS) (b.la.map wideS)).map narS))]⟩ := by
    simp only [SOMin, SEachMin, rsOf_cells]; rw [if_pos ⟨ia, ib, la, lb⟩]
  have mD : SRMinus [.agg a.cells, .agg b.cells] = if orE2 (chkR a) (chkR b) ≠ 0 then some ⟨.tup [.agg [.nils, .nils, .nils], .int .i64 (orE2 (chkR a) (chkR b))], []⟩ else SAllD [.int .i64 2, .agg a.cells, .agg b.cells] := by
    simp only [SRMinus, rsOf_cells]; rw [if_pos ⟨ia, ib, la, lb⟩]
  rw [mR, mD]
  by_cases hz : orE2 (chkR a) (chkR b) = 0
  · have nc : ¬ orE2 (chkR a) (chkR b) ≠ 0 := by omega
    simp only [if_neg nc]
    have hca : chkR a = 0 := by unfold orE2 at hz; split at hz <;> omega
    have hcb : chkR b = 0 := by unfold orE2 at hz; rw [if_pos hca] at hz; exact hz
    have ka := chkR_len hca
    have kb := chkR_len hcb
    have n4 : Nrm 4 a.l4 ∧ Nrm 4 b.l4 := ⟨nrm_lst ia hca (k := 0) (by omega), nrm_lst ib hcb (k := 0) (by omega)⟩
    have n6 : Nrm 6 a.l6 ∧ Nrm 6 b.l6 := ⟨nrm_lst ia hca (k := 1) (by omega), nrm_lst ib hcb (k := 1) (by omega)⟩
    have nA : Nrm 4 (a.la.map wideS) ∧ Nrm 4 (b.la.map wideS) := ⟨nrm_lst ia hca (k := 2) (by omega), nrm_lst ib hcb (k := 2) (by omega)⟩
    have e4 : D4 2 a b = minS a.l4 b.l4 := (min_done (f := 4) (.inl rfl) n4.1 n4.2).symm
    have e6 : D6 2 a b = minS a.l6 b.l6 := (min_done (f := 6) (.inr rfl) n6.1 n6.2).symm
    have eA : DA 2 a b = minS (a.la.map wideS) (b.la.map wideS) := (min_done (f := 4) (.inl rfl) nA.1 nA.2).symm
    have i4 : ∀ s ∈ minS a.l4 b.l4, inSP s := fun s hs => by rw [← e4] at hs; exact inSP_vf ((doneL_spec (.inl rfl) n4.1.v n4.2.v).1.v s hs)
    have i6 : ∀ s ∈ minS a.l6 b.l6, inSP s := fun s hs => by rw [← e6] at hs; exact inSP_vf ((doneL_spec (.inr rfl) n6.1.v n6.2.v).1.v s hs)
    have mA : SAllD [.int .i64 2, .agg a.cells, .agg b.cells] = if big3 (minS a.l4 b.l4) (minS a.l6 b.l6) (minS (a.la.map wideS) (b.la.map wideS)) = true then some ⟨.tup [.agg [.nils, .nils, .nils], .int .i64 4], []⟩
        else some ⟨.tup [.agg [.rd 4 (sRows (minS a.l4 b.l4)), .rd 4 (sRows (minS a.l6 b.l6)), .rd 2 (aRows ((minS (a.la.map wideS) (b.la.map wideS)).map narS))], .int .i64 0], []⟩ := by
      simp only [SAllD, rsOf_cells]
      rw [if_pos ⟨ia, ib, ⟨by have := ka.1; omega, by have := ka.2.1; omega, by have := ka.2.2; omega⟩, ⟨by have := kb.1; omega, by have := kb.2.1; omega, by have := kb.2.2; omega⟩⟩, e4, e6, eA]
    rw [mA]
    by_cases hb : big3 (minS a.l4 b.l4) (minS a.l6 b.l6) (minS (a.la.map wideS) (b.la.map wideS)) = true
    · simp only [if_pos hb]
      exact ⟨_, _, RS0, 4, rfl, rfl, .inl ⟨rfl, rfl, rfl⟩, inRS0, lenRS0 _⟩
    · simp only [if_neg hb]
      obtain ⟨b1, b2, b3⟩ := big_len hb
      exact ⟨_, _, ⟨minS a.l4 b.l4, minS a.l6 b.l6, (minS (a.la.map wideS) (b.la.map wideS)).map narS⟩, 0, rfl, rfl, .inr ⟨rfl, rfl⟩, ⟨i4, i6, fun s hs => by obtain ⟨t, _, rfl⟩ := List.mem_map.1 hs; exact inAS_nar t⟩, ⟨b1, b2, by simpa using b3⟩⟩
  · simp only [if_pos (show orE2 (chkR a) (chkR b) ≠ 0 from hz)]
    exact ⟨_, _, RS0, _, rfl, rfl, .inl ⟨rfl, rfl, rfl⟩, inRS0, lenRS0 _⟩

theorem pair_Unn {a b : RS} (ia : inRS a) (ib : inRS b) (la : lenRS 1000000 a) (lb : lenRS 1000000 b) : ∃ r r' M c, SOUnn [.agg a.cells, .agg b.cells] = some r ∧ SRUnion [.agg a.cells, .agg b.cells] = some r' ∧ PairF r r' M c ∧ inRS M ∧ lenRS 200 M := by
  have mR : SOUnn [.agg a.cells, .agg b.cells] = if orE2 (chkR a) (chkR b) ≠ 0 then some ⟨.tup [.agg [.nils, .nils, .nils], .int .i64 (orE2 (chkR a) (chkR b))], []⟩
      else if big3 (unnS a.l4 b.l4) (unnS a.l6 b.l6) (unnS (a.la.map wideS) (b.la.map wideS)) = true then some ⟨.tup [.agg [.nils, .nils, .nils], .int .i64 4], []⟩
      else some ⟨.tup [.agg [.own 0, .own 1, .own 2], .int .i64 0], [.sl 4 55 (sRows (unnS a.l4 b.l4)), .sl 4 55 (sRows (unnS a.l6 b.l6)), .sl 2 57 (aRows ((unnS (a.la.map wideS) (b.la.map wideS)).map narS))]⟩ := by
    simp only [SOUnn, SEachUnn, rsOf_cells]; rw [if_pos ⟨ia, ib, la, lb⟩]
  have mD : SRUnion [.agg a.cells, .agg b.cells] = if orE2 (chkR a) (chkR b) ≠ 0 then some ⟨.tup [.agg [.nils, .nils, .nils], .int .i64 (orE2 (chkR a) (chkR b))], []⟩ else SAllD [.int .i64 0, .agg a.cells, .agg b.cells] := by
    simp only [SRUnion, rsOf_cells]; rw [if_pos ⟨ia, ib, la, lb⟩]
  rw [mR, mD]
  by_cases hz : orE2 (chkR a) (chkR b) = 0
  · have nc : ¬ orE2 (chkR a) (chkR b) ≠ 0 := by omega
    simp only [if_neg nc]
    have hca : chkR a = 0 := by unfold orE2 at hz; split at hz <;> omega
    have hcb : chkR b = 0 := by unfold orE2 at hz; rw [if_pos hca] at hz; exact hz
    have ka := chkR_len hca
    have kb := chkR_len hcb
    have n4 : Nrm 4 a.l4 ∧ Nrm 4 b.l4 := ⟨nrm_lst ia hca (k := 0) (by omega), nrm_lst ib hcb (k := 0) (by omega)⟩
    have n6 : Nrm 6 a.l6 ∧ Nrm 6 b.l6 := ⟨nrm_lst ia hca (k := 1) (by omega), nrm_lst ib hcb (k := 1) (by omega)⟩
    have nA : Nrm 4 (a.la.map wideS) ∧ Nrm 4 (b.la.map wideS) := ⟨nrm_lst ia hca (k := 2) (by omega), nrm_lst ib hcb (k := 2) (by omega)⟩
    have e4 : D4 0 a b = unnS a.l4 b.l4 := (union_done (f := 4) (.inl rfl) n4.1.v n4.2.v).symm
    have e6 : D6 0 a b = unnS a.l6 b.l6 := (union_done (f := 6) (.inr rfl) n6.1.v n6.2.v).symm
    have eA : DA 0 a b = unnS (a.la.map wideS) (b.la.map wideS) := (union_done (f := 4) (.inl rfl) nA.1.v nA.2.v).symm
    have i4 : ∀ s ∈ unnS a.l4 b.l4, inSP s := fun s hs => by rw [← e4] at hs; exact inSP_vf ((doneL_spec (.inl rfl) n4.1.v n4.2.v).1.v s hs)
    have i6 : ∀ s ∈ unnS a.l6 b.l6, inSP s := fun s hs => by rw [← e6] at hs; exact inSP_vf ((doneL_spec (.inr rfl) n6.1.v n6.2.v).1.v s hs)
    have mA : SAllD [.int .i64 0, .agg a.cells, .agg b.cells] = if big3 (unnS a.l4 b.l4) (unnS a.l6 b.l6) (unnS (a.la.map wideS) (b.la.map wideS)) = true then some ⟨.tup [.agg [.nils, .nils, .nils], .int .i64 4], []⟩
        else some ⟨.tup [.agg [.rd 4 (sRows (unnS a.l4 b.l4)), .rd 4 (sRows (unnS a.l6 b.l6)), .rd 2 (aRows ((unnS (a.la.map wideS) (b.la.map wideS)).map narS))], .int .i64 0], []⟩ := by
      simp only [SAllD, rsOf_cells]
      rw [if_pos ⟨ia, ib, ⟨by have := ka.1; omega, by have := ka.2.1; omega, by have := ka.2.2; omega⟩, ⟨by have := kb.1; omega, by have := kb.2.1; omega, by have := kb.2.2; omega⟩⟩, e4, e6, eA]
    rw [mA]
    by_cases hb : big3 (unnS a.l4 b.l4) (unnS a.l6 b.l6) (unnS (a.la.map wideS) (b.la.map wideS)) = true
    · simp only [if_pos hb]
      exact ⟨_, _, RS0, 4, rfl, rfl, .inl ⟨rfl, rfl, rfl⟩, inRS0, lenRS0 _⟩
    · simp only [if_neg hb]
      obtain ⟨b1, b2, b3⟩ := big_len hb
      exact ⟨_, _, ⟨unnS a.l4 b.l4, unnS a.l6 b.l6, (unnS (a.la.map wideS) (b.la.map wideS)).map narS⟩, 0, rfl, rfl, .inr ⟨rfl, rfl⟩, ⟨i4, i6, fun s hs => by obtain ⟨t, _, rfl⟩ := List.mem_map.1 hs; exact inAS_nar t⟩, ⟨b1, b2, by simpa using b3⟩⟩
  · simp only [if_pos (show orE2 (chkR a) (chkR b) ≠ 0 from hz)]
    exact ⟨_, _, RS0, _, rfl, rfl, .inl ⟨rfl, rfl, rfl⟩, inRS0, lenRS0 _⟩

end Go.Proofs.Ytnhgdkcddjbpgaa.AL
namespace Go.Proofs.Ytnhgdkcddjbpgaa.AL
open Go
attribute [local simp] qf cv qbin ibin sbin qun retPost rvOk ctV ctPost marksOk retV resAll resOf V.lt ltL V.ren renL V.exp V.exp1 cleanL V.clean closedL V.closed V.cells V.one V.tree
  loadV cellsAt isNC nilQ isSlD isIfD slNew ownRows ownCells V.isOwn slStore srcO qlook mlook mget mstr zval qnone qmake mput lmap isAggD placesOf fillV putCells lstore bound seqParts V.sh shL Blk.sh newV V.ok peqs peq srcRows appOk mmV mmR hidE V.fz fzL Blk.fz fzOk and_assoc
attribute [-simp] Int.not_le Int.not_lt Nat.not_le Nat.not_lt
def lowS (s : SP) : SP := ⟨s.h, 77, s.h', s.l'⟩
def frA (s : AS) : AS := ⟨77, s.b⟩
def upto {α : Type} (f : α → α) (k : Nat) (l : List α) : List α := (l.take k).map f ++ l.drop k
theorem upto_zero {α : Type} (f : α → α) (l : List α) : upto f 0 l = l := by simp [upto]
theorem upto_all {α : Type} (f : α → α) (l : List α) : upto f l.length l = l.map f := by simp [upto]
theorem upto_len {α : Type} (f : α → α) {k : Nat} {l : List α} (h : k ≤ l.length) : (upto f k l).length = l.length := by simp [upto]; omega
theorem upto_eq {α : Type} (f : α → α) {k : Nat} {l : List α} (h : k < l.length) : upto f k l = (l.take k).map f ++ l[k] :: l.drop (k + 1) := by
  unfold upto
  rw [List.drop_eq_getElem_cons h]
theorem upto_succ {α : Type} (f : α → α) {k : Nat} {l : List α} (h : k < l.length) : upto f (k + 1) l = (l.take k).map f ++ f l[k] :: l.drop (k + 1) := by
  unfold upto
  rw [take_snoc' l k h, List.map_append, List.append_assoc]
  rfl
theorem set_mid {α : Type} (x y : List α) (a b : α) (k : Nat) (h : x.length = k) : (x ++ a :: y).set k b = x ++ b :: y := by
  subst h
  rw [List.set_append_right _ _ (Nat.le_refl _), Nat.sub_self]
  rfl
theorem get_mid {α : Type} (x y : List α) (a : α) (k : Nat) (h : x.length = k) : (x ++ a :: y)[k]? = some a := by
  subst h
  rw [List.getElem?_append_right (Nat.le_refl _), Nat.sub_self]
  rfl
theorem tk_len {α : Type} {k : Nat} {l : List α} (h : k < l.length) : (l.take k).length = k := by simp; omega
theorem sUp_get {k : Nat} {l : List SP} (h : k < l.length) : (sRows (upto lowS k l))[k]? = some [.int .u64 l[k].h, .int .u64 l[k].l, .int .u64 l[k].h', .int .u64 l[k].l'] := by
  rw [upto_eq lowS h]
  unfold sRows
  rw [List.map_append, List.map_cons]
  exact get_mid _ _ _ _ (by rw [List.length_map, List.length_map]; exact tk_len h)
theorem sUp_set {k : Nat} {l : List SP} (h : k < l.length) : (sRows (upto lowS k l)).set k [.int .u64 l[k].h, .int .u64 77, .int .u64 l[k].h', .int .u64 l[k].l'] = sRows (upto lowS (k + 1) l) := by
  rw [upto_eq lowS h, upto_succ lowS h]
  unfold sRows
  rw [List.map_append, List.map_cons, List.map_append, List.map_cons]
  exact set_mid _ _ _ _ _ (by rw [List.length_map, List.length_map]; exact tk_len h)
theorem aUp_get {k : Nat} {l : List AS} (h : k < l.length) : (aRows (upto frA k l))[k]? = some [.int .u32 l[k].a, .int .u32 l[k].b] := by
  rw [upto_eq frA h]
  unfold aRows
  rw [List.map_append, List.map_cons]
  exact get_mid _ _ _ _ (by rw [List.length_map, List.length_map]; exact tk_len h)
theorem aUp_set {k : Nat} {l : List AS} (h : k < l.length) : (aRows (upto frA k l)).set k [.int .u32 77, .int .u32 l[k].b] = aRows (upto frA (k + 1) l) := by
  rw [upto_eq frA h, upto_succ frA h]
  unfold aRows
  rw [List.map_append, List.map_cons, List.map_append, List.map_cons]
  exact set_mid _ _ _ _ _ (by rw [List.length_map, List.length_map]; exact tk_len h)

end Go.Proofs.Ytnhgdkcddjbpgaa.AL
