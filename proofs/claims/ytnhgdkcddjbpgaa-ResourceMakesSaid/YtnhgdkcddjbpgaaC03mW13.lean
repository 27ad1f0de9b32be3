import Derived.Test.YtnhgdkcddjbpgaaC03mW12
/- What single functions compute: a part of the proof; no conditions. -/
set_option linter.unusedVariables false
set_option linter.unusedSimpArgs false
set_option maxRecDepth 100000
namespace Go.Proofs.Ytnhgdkcddjbpgaa.AL
open Go
attribute [local simp] qf cv qbin ibin sbin qun retPost rvOk ctV ctPost marksOk retV resAll resOf V.lt ltL V.ren renL V.exp V.exp1 cleanL V.clean closedL V.closed V.cells V.one V.tree
  loadV cellsAt isNC nilQ isSlD isIfD slNew ownRows ownCells V.isOwn slStore srcO qlook mlook mget mstr zval qnone qmake mput lmap isAggD placesOf fillV putCells lstore bound seqParts V.sh shL Blk.sh newV V.ok peqs peq srcRows appOk mmV mmR hidE V.fz fzL Blk.fz fzOk and_assoc
attribute [-simp] Int.not_le Int.not_lt Nat.not_le Nat.not_lt
theorem resourceMakes_runs : ∀ As, ArgsV Try.prog Try.f4.params.toList [[.sl [.int .u64, .int .u64, .int .u64, .int .u64], .sl [.int .u64, .int .u64, .int .u64, .int .u64], .sl [.int .u32, .int .u32]], [.sl [.int .u64, .int .u64, .int .u64, .int .u64], .sl [.int .u64, .int .u64, .int .u64, .int .u64], .sl [.int .u32, .int .u32]]] As → Runs Try.prog 4 As ⟨.bool true, []⟩ := by
  intro As h
  obtain ⟨a, ia, b, ib, rfl⟩ : ∃ a : RS, inRS a ∧ ∃ b : RS, inRS b ∧ As = [.agg a.cells, .agg b.cells] := by
    simp only [Try.f4, ArgsV] at h
    obtain ⟨_, _, V1, _, e1, rfl, h1, _, _, V2, _, e2, rfl, h2, rfl, rfl⟩ := h
    simp only [List.cons.injEq] at e1
    obtain ⟨rfl, rfl⟩ := e1
    simp only [List.cons.injEq] at e2
    obtain ⟨rfl, _⟩ := e2
    obtain ⟨a, rfl, ia⟩ := rs_of_shape h1
    obtain ⟨b, rfl, ib⟩ := rs_of_shape h2
    exact ⟨a, ia, b, ib, by simp [argV, RS.cells]⟩
  have gA : SGr3 [.agg a.cells] = some ⟨.bool (grt a.l4.length || grt a.l6.length || grt a.la.length), []⟩ := by
    simp [SGr3, RS.cells]
  have gB : SGr3 [.agg b.cells] = some ⟨.bool (grt b.l4.length || grt b.l6.length || grt b.la.length), []⟩ := by
    simp [SGr3, RS.cells]
  have hT : (T0.add 5 SGr3).ok Try.prog := Tab.add_ok (T0_ok _) runs_ref03_Great
  cases e1 : (grt a.l4.length || grt a.l6.length || grt a.la.length)
  · cases e2 : (grt b.l4.length || grt b.l6.length || grt b.la.length)
    · have g1 := e1
      have g2 := e2
      simp only [Bool.or_eq_false_iff] at g1 g2
      rw [e1] at gA
      rw [e2] at gB
      exact straight a b ia ib ⟨by have := grt_len g1.1.1; omega, by have := grt_len g1.1.2; omega, by have := grt_len g1.2; omega⟩ ⟨by have := grt_len g2.1.1; omega, by have := grt_len g2.1.2; omega, by have := grt_len g2.2; omega⟩ gA gB
    · rw [e1] at gA
      rw [e2] at gB
      refine Runs.of_body Try.func4 (by decide) rfl (by simp [Try.f4]) ?_
      simp only [RS.cells] at *
      refine W.of_WE hT mixed M_f4 _ (by kernel_rfl) ?_
      simp [Try.f4, gA, gB]
  · rw [e1] at gA
    refine Runs.of_body Try.func4 (by decide) rfl (by simp [Try.f4]) ?_
    simp only [RS.cells] at *
    refine W.of_WE hT mixed M_f4 _ (by kernel_rfl) ?_
    simp [Try.f4, gA]

end Go.Proofs.Ytnhgdkcddjbpgaa.AL
