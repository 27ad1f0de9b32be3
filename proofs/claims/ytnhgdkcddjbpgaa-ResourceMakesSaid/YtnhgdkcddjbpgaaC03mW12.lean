import Derived.Test.YtnhgdkcddjbpgaaC03mW11
/- What single functions compute: a part of the proof; no conditions. -/
set_option linter.unusedVariables false
set_option linter.unusedSimpArgs false
set_option maxRecDepth 100000
namespace Go.Proofs.Ytnhgdkcddjbpgaa.AL
open Go
attribute [local simp] qf cv qbin ibin sbin qun retPost rvOk ctV ctPost marksOk retV resAll resOf V.lt ltL V.ren renL V.exp V.exp1 cleanL V.clean closedL V.closed V.cells V.one V.tree
  loadV cellsAt isNC nilQ isSlD isIfD slNew ownRows ownCells V.isOwn slStore srcO qlook mlook mget mstr zval qnone qmake mput lmap isAggD placesOf fillV putCells lstore bound seqParts V.sh shL Blk.sh newV V.ok peqs peq srcRows appOk mmV mmR hidE V.fz fzL Blk.fz fzOk and_assoc
attribute [-simp] Int.not_le Int.not_lt Nat.not_le Nat.not_lt
def spR (m : RS) : RS := ⟨m.l4.map lowS, m.l6.map lowS, m.la.map frA⟩
theorem spR_len {m : RS} (h : lenRS 200 m) : lenRS 200 (spR m) := ⟨by simpa [spR] using h.1, by simpa [spR] using h.2.1, by simpa [spR] using h.2.2⟩
structure LS where
  j : Nat
  m : RS
  u : RS
  i : RS
  x : RS
  hm : lenRS 200 m
  hu : lenRS 200 u
  hi : lenRS 200 i
  hx : lenRS 200 x
theorem wr_small : IntKind.i64.wrap 1 = 1 ∧ IntKind.i64.wrap 2 = 2 ∧ IntKind.i64.wrap 3 = 3 ∧ IntKind.i64.wrap 4 = 4 := ⟨rfl, rfl, rfl, rfl⟩
def M_f4 : Md := fun i => if i = 3 then some #[0, 1, 0, 7, 0, 0, 63, 127] else if i = 8 then some #[0, 0, 3, 7, 15, 15, 63, 127, 255, 511, 511, 2047, 4095, 8191, 16383, 16383, 65535, 131071, 262143, 524287, 1048575, 524287, 4194303, 8388607, 16777215, 33554431] else some #[]
@[simp] theorem M_f4_eq {i : Nat} : M_f4 i = (if i = 3 then some #[0, 1, 0, 7, 0, 0, 63, 127] else if i = 8 then some #[0, 0, 3, 7, 15, 15, 63, 127, 255, 511, 511, 2047, 4095, 8191, 16383, 16383, 65535, 131071, 262143, 524287, 1048575, 524287, 4194303, 8388607, 16777215, 33554431] else some #[]) := rfl
set_option maxHeartbeats 8000000 in
theorem straight (a b : RS) (ia : inRS a) (ib : inRS b) (la : lenRS 1000 a) (lb : lenRS 1000 b)
    (gA : SGr3 [.agg a.cells] = some ⟨.bool false, []⟩) (gB : SGr3 [.agg b.cells] = some ⟨.bool false, []⟩) :
    Runs Try.prog 4 [.agg a.cells, .agg b.cells] ⟨.bool true, []⟩ := by
  have LA : lenRS 1000000 a := ⟨by have := la.1; omega, by have := la.2.1; omega, by have := la.2.2; omega⟩
  have LB : lenRS 1000000 b := ⟨by have := lb.1; omega, by have := lb.2.1; omega, by have := lb.2.2; omega⟩
  have tw : ∀ r : RS, lenRS 1000 r → STwR [.agg r.cells] = some ⟨.agg [.own 0, .own 1, .own 2], [.sl 4 55 (sRows r.l4), .sl 4 55 (sRows r.l6), .sl 2 57 (aRows r.la)]⟩ := by
    intro r hr
    simp only [STwR, rsOf_cells]; rw [if_pos hr]
  have hA := tw a la
  have hB := tw b lb
  have same : ∀ r : RS, inRS r → lenRS 1000000 r → SSameD [.agg r.cells, .agg r.cells] = some ⟨.bool true, []⟩ := by
    intro r h1 h2
    simp only [SSameD, rsOf_cells]; rw [if_pos ⟨h1, h1, h2, h2⟩]; simp [sameR]
  have big : ∀ r : RS, lenRS 200 r → lenRS 1000000 r := fun r h => ⟨by have := h.1; omega, by have := h.2.1; omega, by have := h.2.2; omega⟩
  have ksa := same a ia LA
  have ksb := same b ib LB
  have kca := chkR_at ia LA
  obtain ⟨rm, rm', Mm, cm, km, km', hpMm, iMm, lMm⟩ := make_pair ia LA
  obtain ⟨ru, ru', Mu, cu, ku, ku', hpMu, iMu, lMu⟩ := pair_Unn ia ib LA LB
  obtain ⟨ri, ri', Mi, ci, ki, ki', hpMi, iMi, lMi⟩ := pair_Int ia ib LA LB
  obtain ⟨rx, rx', Mx, cx, kx, kx', hpMx, iMx, lMx⟩ := pair_Min ia ib LA LB
  have ksm := same Mm iMm (big _ lMm)
  have ksu := same Mu iMu (big _ lMu)
  have ksi := same Mi iMi (big _ lMi)
  have ksx := same Mx iMx (big _ lMx)
  unfold PairF at hpMm hpMu hpMi hpMx
  simp only [RS.cells] at *
  have hT : (((((((((((((T0.add 5 SGr3).add 15 STwR).add 16 SMakeR).add 17 SMakeD).add 18 SOUnn).add 19 SRUnion).add 13 SSameD).add 20 SChkR).add 21 SChkR).add 22 SOInt).add 23 SRInter).add 24 SOMin).add 25 SRMinus).ok Try.prog :=
    Tab.add_ok (Tab.add_ok (Tab.add_ok (Tab.add_ok (Tab.add_ok (Tab.add_ok (Tab.add_ok (Tab.add_ok (Tab.add_ok (Tab.add_ok (Tab.add_ok (Tab.add_ok (Tab.add_ok (T0_ok _) runs_ref03_Great) runs_ref03_Twin) runs_resource_Make) runs_ref03_Make) runs_resource_Unn) runs_ref03_Union) runs_ref03_Same) runs_resource_Check) runs_ref03_Check) runs_resource_Int) runs_ref03_Inter) runs_resource_Min) runs_ref03_Minus
  refine Runs.of_body Try.func4 (by decide) rfl (by simp [Try.f4]) ?_
  refine W.seqE hT mixed M_f4 (by kernel_rfl) ?_
  simp [Try.f4]
  refine W.seqE hT mixed M_f4 (by kernel_rfl) ?_
  simp [gA, gB]
  refine W.seqE hT mixed M_f4 (by kernel_rfl) ?_
  simp [hA, hB]
  refine W.wk (Wk.freeze 80 (.sl 4 55 (sRows a.l4)) (by simp) (by simp)) ?_
  refine W.wk (Wk.freeze 81 (.sl 4 55 (sRows a.l6)) (by simp) (by simp)) ?_
  refine W.wk (Wk.freeze 82 (.sl 2 57 (aRows a.la)) (by simp) (by simp)) ?_
  refine W.wk (Wk.freeze 96 (.sl 4 55 (sRows b.l4)) (by simp) (by simp)) ?_
  refine W.wk (Wk.freeze 97 (.sl 4 55 (sRows b.l6)) (by simp) (by simp)) ?_
  refine W.wk (Wk.freeze 98 (.sl 2 57 (aRows b.la)) (by simp) (by simp)) ?_
  refine W.wk (Wk.freeze 0 (.box 25 [.rd 4 (sRows a.l4), .rd 4 (sRows a.l6), .rd 2 (aRows a.la)]) (by simp) (by simp)) ?_
  refine W.wk (Wk.freeze 8 (.box 25 [.rd 4 (sRows b.l4), .rd 4 (sRows b.l6), .rd 2 (aRows b.la)]) (by simp) (by simp)) ?_
  refine W.wk (Wk.freeze 104 (.box 25 [.rd 4 (sRows a.l4), .rd 4 (sRows a.l6), .rd 2 (aRows a.la)]) (by simp) (by simp)) ?_
  refine W.wk (Wk.freeze 112 (.box 25 [.rd 4 (sRows b.l4), .rd 4 (sRows b.l6), .rd 2 (aRows b.la)]) (by simp) (by simp)) ?_
  refine W.wk (norm_wk [] (l := [(2, .rptr [.rd 4 (sRows a.l4), .rd 4 (sRows a.l6), .rd 2 (aRows a.la)] 0), (3, .rptr [.rd 4 (sRows b.l4), .rd 4 (sRows b.l6), .rd 2 (aRows b.la)] 0), (5, .rptr [.rd 4 (sRows a.l4), .rd 4 (sRows a.l6), .rd 2 (aRows a.la)] 0), (6, .rptr [.rd 4 (sRows b.l4), .rd 4 (sRows b.l6), .rd 2 (aRows b.la)] 0)]) (h := []) (nt := 188) (by simp [wkOkx, tmOk, dfOk, hpOk])) ?_
  refine W.cutw True [(2, .rptr [.rd 4 (sRows a.l4), .rd 4 (sRows a.l6), .rd 2 (aRows a.la)] 0), (3, .rptr [.rd 4 (sRows b.l4), .rd 4 (sRows b.l6), .rd 2 (aRows b.la)] 0), (5, .rptr [.rd 4 (sRows a.l4), .rd 4 (sRows a.l6), .rd 2 (aRows a.la)] 0), (6, .rptr [.rd 4 (sRows b.l4), .rd 4 (sRows b.l6), .rd 2 (aRows b.la)] 0), (7, .ptr 0 0), (8, .int .i64 cm)] [.box 25 [.own 1, .own 2, .own 3], .sl 4 55 (sRows Mm.l4), .sl 4 55 (sRows Mm.l6), .sl 2 57 (aRows Mm.la)] 188 ?_ ?_
  · refine W.of_WE hT mixed M_f4 _ (by kernel_rfl) ?_
    rcases hpMm with ⟨rfl, rfl, rfl⟩ | ⟨rfl, rfl⟩
    · simp [km]
      refine Wk.trans (Wk.adoptB 40 0 4 55 (bt := 25) (cells := [.nils, .nils, .nils]) (by omega) (by simp) rfl) ?_
      refine Wk.trans (Wk.adoptB 40 1 4 55 (bt := 25) (cells := [.own 64, .nils, .nils]) (by omega) (by simp) rfl) ?_
      refine Wk.trans (Wk.adoptB 40 2 2 57 (bt := 25) (cells := [.own 64, .own 65, .nils]) (by omega) (by simp) rfl) ?_
      exact norm_wk [40, 64, 65, 66] (by simp [wkOkx, tmOk, dfOk, hpOk, sRows, aRows, RS0])
    · simp [km]
      exact norm_wk [40, 8, 9, 10] (by simp [wkOkx, tmOk, dfOk, hpOk])
  intro _
  refine W.cutw True [(2, .rptr [.rd 4 (sRows a.l4), .rd 4 (sRows a.l6), .rd 2 (aRows a.la)] 0), (3, .rptr [.rd 4 (sRows b.l4), .rd 4 (sRows b.l6), .rd 2 (aRows b.la)] 0), (5, .rptr [.rd 4 (sRows a.l4), .rd 4 (sRows a.l6), .rd 2 (aRows a.la)] 0), (6, .rptr [.rd 4 (sRows b.l4), .rd 4 (sRows b.l6), .rd 2 (aRows b.la)] 0), (7, .ptr 0 0), (8, .int .i64 cm), (9, .rptr [.rd 4 (sRows Mm.l4), .rd 4 (sRows Mm.l6), .rd 2 (aRows Mm.la)] 0), (10, .int .i64 cm)] [.box 25 [.own 1, .own 2, .own 3], .sl 4 55 (sRows Mm.l4), .sl 4 55 (sRows Mm.l6), .sl 2 57 (aRows Mm.la)] 188 ?_ ?_
  · refine W.of_WE hT mixed M_f4 _ (by kernel_rfl) ?_
    rcases hpMm with ⟨rfl, rfl, rfl⟩ | ⟨rfl, rfl⟩
    · simp [km']
      refine Wk.trans (Wk.weakB 44 (bt := 25) (cells := [.nils, .nils, .nils]) [.rd 4 [], .rd 4 [], .rd 2 []] (by simp) nils_RL) ?_
      refine Wk.trans (Wk.freeze 44 (.box 25 [.rd 4 [], .rd 4 [], .rd 2 []]) (by simp) (by simp)) ?_
      exact norm_wk [0, 1, 2, 3] (by simp [wkOkx, tmOk, dfOk, hpOk, sRows, aRows, RS0])
    · simp [km']
      refine Wk.trans (Wk.freeze 44 (.box 25 [.rd 4 (sRows Mm.l4), .rd 4 (sRows Mm.l6), .rd 2 (aRows Mm.la)]) (by simp) (by simp)) ?_
      exact norm_wk [0, 1, 2, 3] (by simp [wkOkx, tmOk, dfOk, hpOk])
  intro _
  refine W.cutw True [(2, .rptr [.rd 4 (sRows a.l4), .rd 4 (sRows a.l6), .rd 2 (aRows a.la)] 0), (3, .rptr [.rd 4 (sRows b.l4), .rd 4 (sRows b.l6), .rd 2 (aRows b.la)] 0), (5, .rptr [.rd 4 (sRows a.l4), .rd 4 (sRows a.l6), .rd 2 (aRows a.la)] 0), (6, .rptr [.rd 4 (sRows b.l4), .rd 4 (sRows b.l6), .rd 2 (aRows b.la)] 0), (7, .ptr 0 0), (8, .int .i64 cm), (9, .rptr [.rd 4 (sRows Mm.l4), .rd 4 (sRows Mm.l6), .rd 2 (aRows Mm.la)] 0), (10, .int .i64 cm), (11, .ptr 4 0), (12, .int .i64 cu)] [.box 25 [.own 1, .own 2, .own 3], .sl 4 55 (sRows Mm.l4), .sl 4 55 (sRows Mm.l6), .sl 2 57 (aRows Mm.la), .box 25 [.own 5, .own 6, .own 7], .sl 4 55 (sRows Mu.l4), .sl 4 55 (sRows Mu.l6), .sl 2 57 (aRows Mu.la)] 188 ?_ ?_
  · refine W.of_WE hT mixed M_f4 _ (by kernel_rfl) ?_
    rcases hpMu with ⟨rfl, rfl, rfl⟩ | ⟨rfl, rfl⟩
    · simp [ku]
      refine Wk.trans (Wk.adoptB 52 0 4 55 (bt := 25) (cells := [.nils, .nils, .nils]) (by omega) (by simp) rfl) ?_
      refine Wk.trans (Wk.adoptB 52 1 4 55 (bt := 25) (cells := [.own 76, .nils, .nils]) (by omega) (by simp) rfl) ?_
      refine Wk.trans (Wk.adoptB 52 2 2 57 (bt := 25) (cells := [.own 76, .own 77, .nils]) (by omega) (by simp) rfl) ?_
      exact norm_wk [0, 1, 2, 3, 52, 76, 77, 78] (by simp [wkOkx, tmOk, dfOk, hpOk, sRows, aRows, RS0])
    · simp [ku]
      exact norm_wk [0, 1, 2, 3, 52, 20, 21, 22] (by simp [wkOkx, tmOk, dfOk, hpOk])
  intro _
  refine W.cutw True [(2, .rptr [.rd 4 (sRows a.l4), .rd 4 (sRows a.l6), .rd 2 (aRows a.la)] 0), (3, .rptr [.rd 4 (sRows b.l4), .rd 4 (sRows b.l6), .rd 2 (aRows b.la)] 0), (5, .rptr [.rd 4 (sRows a.l4), .rd 4 (sRows a.l6), .rd 2 (aRows a.la)] 0), (6, .rptr [.rd 4 (sRows b.l4), .rd 4 (sRows b.l6), .rd 2 (aRows b.la)] 0), (7, .ptr 0 0), (8, .int .i64 cm), (9, .rptr [.rd 4 (sRows Mm.l4), .rd 4 (sRows Mm.l6), .rd 2 (aRows Mm.la)] 0), (10, .int .i64 cm), (11, .ptr 4 0), (12, .int .i64 cu), (13, .rptr [.rd 4 (sRows Mu.l4), .rd 4 (sRows Mu.l6), .rd 2 (aRows Mu.la)] 0), (14, .int .i64 cu)] [.box 25 [.own 1, .own 2, .own 3], .sl 4 55 (sRows Mm.l4), .sl 4 55 (sRows Mm.l6), .sl 2 57 (aRows Mm.la), .box 25 [.own 5, .own 6, .own 7], .sl 4 55 (sRows Mu.l4), .sl 4 55 (sRows Mu.l6), .sl 2 57 (aRows Mu.la)] 188 ?_ ?_
  · refine W.of_WE hT mixed M_f4 _ (by kernel_rfl) ?_
    rcases hpMu with ⟨rfl, rfl, rfl⟩ | ⟨rfl, rfl⟩
    · simp [ku']
      refine Wk.trans (Wk.weakB 56 (bt := 25) (cells := [.nils, .nils, .nils]) [.rd 4 [], .rd 4 [], .rd 2 []] (by simp) nils_RL) ?_
      refine Wk.trans (Wk.freeze 56 (.box 25 [.rd 4 [], .rd 4 [], .rd 2 []]) (by simp) (by simp)) ?_
      exact norm_wk [0, 1, 2, 3, 4, 5, 6, 7] (by simp [wkOkx, tmOk, dfOk, hpOk, sRows, aRows, RS0])
    · simp [ku']
      refine Wk.trans (Wk.freeze 56 (.box 25 [.rd 4 (sRows Mu.l4), .rd 4 (sRows Mu.l6), .rd 2 (aRows Mu.la)]) (by simp) (by simp)) ?_
      exact norm_wk [0, 1, 2, 3, 4, 5, 6, 7] (by simp [wkOkx, tmOk, dfOk, hpOk])
  intro _
  refine W.cutw True [(2, .rptr [.rd 4 (sRows a.l4), .rd 4 (sRows a.l6), .rd 2 (aRows a.la)] 0), (3, .rptr [.rd 4 (sRows b.l4), .rd 4 (sRows b.l6), .rd 2 (aRows b.la)] 0), (5, .rptr [.rd 4 (sRows a.l4), .rd 4 (sRows a.l6), .rd 2 (aRows a.la)] 0), (6, .rptr [.rd 4 (sRows b.l4), .rd 4 (sRows b.l6), .rd 2 (aRows b.la)] 0), (7, .ptr 0 0), (11, .ptr 4 0), (15, .bool true)] [.box 25 [.own 1, .own 2, .own 3], .sl 4 55 (sRows Mm.l4), .sl 4 55 (sRows Mm.l6), .sl 2 57 (aRows Mm.la), .box 25 [.own 5, .own 6, .own 7], .sl 4 55 (sRows Mu.l4), .sl 4 55 (sRows Mu.l6), .sl 2 57 (aRows Mu.la)] 188 ?_ ?_
  · refine W.of_WE hT mixed M_f4 _ (by kernel_rfl) ?_
    simp [ksm, ksu, kca]
    exact norm_wk [0, 1, 2, 3, 4, 5, 6, 7] (by simp [wkOkx, tmOk, dfOk, hpOk])
  intro _
  refine W.cutw True [(2, .rptr [.rd 4 (sRows a.l4), .rd 4 (sRows a.l6), .rd 2 (aRows a.la)] 0), (3, .rptr [.rd 4 (sRows b.l4), .rd 4 (sRows b.l6), .rd 2 (aRows b.la)] 0), (5, .rptr [.rd 4 (sRows a.l4), .rd 4 (sRows a.l6), .rd 2 (aRows a.la)] 0), (6, .rptr [.rd 4 (sRows b.l4), .rd 4 (sRows b.l6), .rd 2 (aRows b.la)] 0), (7, .ptr 0 0), (11, .ptr 4 0), (15, .bool true), (16, .ptr 8 0), (12, .int .i64 ci)] [.box 25 [.own 1, .own 2, .own 3], .sl 4 55 (sRows Mm.l4), .sl 4 55 (sRows Mm.l6), .sl 2 57 (aRows Mm.la), .box 25 [.own 5, .own 6, .own 7], .sl 4 55 (sRows Mu.l4), .sl 4 55 (sRows Mu.l6), .sl 2 57 (aRows Mu.la), .box 25 [.own 9, .own 10, .own 11], .sl 4 55 (sRows Mi.l4), .sl 4 55 (sRows Mi.l6), .sl 2 57 (aRows Mi.la)] 188 ?_ ?_
  · refine W.of_WE hT mixed M_f4 _ (by kernel_rfl) ?_
    rcases hpMi with ⟨rfl, rfl, rfl⟩ | ⟨rfl, rfl⟩
    · simp [ki]
      refine Wk.trans (Wk.adoptB 56 0 4 55 (bt := 25) (cells := [.nils, .nils, .nils]) (by omega) (by simp) rfl) ?_
      refine Wk.trans (Wk.adoptB 56 1 4 55 (bt := 25) (cells := [.own 80, .nils, .nils]) (by omega) (by simp) rfl) ?_
      refine Wk.trans (Wk.adoptB 56 2 2 57 (bt := 25) (cells := [.own 80, .own 81, .nils]) (by omega) (by simp) rfl) ?_
      exact norm_wk [0, 1, 2, 3, 4, 5, 6, 7, 56, 80, 81, 82] (by simp [wkOkx, tmOk, dfOk, hpOk, sRows, aRows, RS0])
    · simp [ki]
      exact norm_wk [0, 1, 2, 3, 4, 5, 6, 7, 56, 24, 25, 26] (by simp [wkOkx, tmOk, dfOk, hpOk])
  intro _
  refine W.cutw True [(2, .rptr [.rd 4 (sRows a.l4), .rd 4 (sRows a.l6), .rd 2 (aRows a.la)] 0), (3, .rptr [.rd 4 (sRows b.l4), .rd 4 (sRows b.l6), .rd 2 (aRows b.la)] 0), (5, .rptr [.rd 4 (sRows a.l4), .rd 4 (sRows a.l6), .rd 2 (aRows a.la)] 0), (6, .rptr [.rd 4 (sRows b.l4), .rd 4 (sRows b.l6), .rd 2 (aRows b.la)] 0), (7, .ptr 0 0), (11, .ptr 4 0), (15, .bool true), (16, .ptr 8 0), (12, .int .i64 ci), (17, .rptr [.rd 4 (sRows Mi.l4), .rd 4 (sRows Mi.l6), .rd 2 (aRows Mi.la)] 0), (14, .int .i64 ci)] [.box 25 [.own 1, .own 2, .own 3], .sl 4 55 (sRows Mm.l4), .sl 4 55 (sRows Mm.l6), .sl 2 57 (aRows Mm.la), .box 25 [.own 5, .own 6, .own 7], .sl 4 55 (sRows Mu.l4), .sl 4 55 (sRows Mu.l6), .sl 2 57 (aRows Mu.la), .box 25 [.own 9, .own 10, .own 11], .sl 4 55 (sRows Mi.l4), .sl 4 55 (sRows Mi.l6), .sl 2 57 (aRows Mi.la)] 188 ?_ ?_
  · refine W.of_WE hT mixed M_f4 _ (by kernel_rfl) ?_
    rcases hpMi with ⟨rfl, rfl, rfl⟩ | ⟨rfl, rfl⟩
    · simp [ki']
      refine Wk.trans (Wk.weakB 60 (bt := 25) (cells := [.nils, .nils, .nils]) [.rd 4 [], .rd 4 [], .rd 2 []] (by simp) nils_RL) ?_
      refine Wk.trans (Wk.freeze 60 (.box 25 [.rd 4 [], .rd 4 [], .rd 2 []]) (by simp) (by simp)) ?_
      exact norm_wk [0, 1, 2, 3, 4, 5, 6, 7, 8, 9, 10, 11] (by simp [wkOkx, tmOk, dfOk, hpOk, sRows, aRows, RS0])
    · simp [ki']
      refine Wk.trans (Wk.freeze 60 (.box 25 [.rd 4 (sRows Mi.l4), .rd 4 (sRows Mi.l6), .rd 2 (aRows Mi.la)]) (by simp) (by simp)) ?_
      exact norm_wk [0, 1, 2, 3, 4, 5, 6, 7, 8, 9, 10, 11] (by simp [wkOkx, tmOk, dfOk, hpOk])
  intro _
  refine W.cutw True [(2, .rptr [.rd 4 (sRows a.l4), .rd 4 (sRows a.l6), .rd 2 (aRows a.la)] 0), (3, .rptr [.rd 4 (sRows b.l4), .rd 4 (sRows b.l6), .rd 2 (aRows b.la)] 0), (5, .rptr [.rd 4 (sRows a.l4), .rd 4 (sRows a.l6), .rd 2 (aRows a.la)] 0), (6, .rptr [.rd 4 (sRows b.l4), .rd 4 (sRows b.l6), .rd 2 (aRows b.la)] 0), (7, .ptr 0 0), (11, .ptr 4 0), (16, .ptr 8 0), (15, .bool true)] [.box 25 [.own 1, .own 2, .own 3], .sl 4 55 (sRows Mm.l4), .sl 4 55 (sRows Mm.l6), .sl 2 57 (aRows Mm.la), .box 25 [.own 5, .own 6, .own 7], .sl 4 55 (sRows Mu.l4), .sl 4 55 (sRows Mu.l6), .sl 2 57 (aRows Mu.la), .box 25 [.own 9, .own 10, .own 11], .sl 4 55 (sRows Mi.l4), .sl 4 55 (sRows Mi.l6), .sl 2 57 (aRows Mi.la)] 188 ?_ ?_
  · refine W.of_WE hT mixed M_f4 _ (by kernel_rfl) ?_
    simp [ksi]
    exact norm_wk [0, 1, 2, 3, 4, 5, 6, 7, 8, 9, 10, 11] (by simp [wkOkx, tmOk, dfOk, hpOk])
  intro _
  refine W.cutw True [(2, .rptr [.rd 4 (sRows a.l4), .rd 4 (sRows a.l6), .rd 2 (aRows a.la)] 0), (3, .rptr [.rd 4 (sRows b.l4), .rd 4 (sRows b.l6), .rd 2 (aRows b.la)] 0), (5, .rptr [.rd 4 (sRows a.l4), .rd 4 (sRows a.l6), .rd 2 (aRows a.la)] 0), (6, .rptr [.rd 4 (sRows b.l4), .rd 4 (sRows b.l6), .rd 2 (aRows b.la)] 0), (7, .ptr 0 0), (11, .ptr 4 0), (16, .ptr 8 0), (15, .bool true), (18, .ptr 12 0), (12, .int .i64 cx)] [.box 25 [.own 1, .own 2, .own 3], .sl 4 55 (sRows Mm.l4), .sl 4 55 (sRows Mm.l6), .sl 2 57 (aRows Mm.la), .box 25 [.own 5, .own 6, .own 7], .sl 4 55 (sRows Mu.l4), .sl 4 55 (sRows Mu.l6), .sl 2 57 (aRows Mu.la), .box 25 [.own 9, .own 10, .own 11], .sl 4 55 (sRows Mi.l4), .sl 4 55 (sRows Mi.l6), .sl 2 57 (aRows Mi.la), .box 25 [.own 13, .own 14, .own 15], .sl 4 55 (sRows Mx.l4), .sl 4 55 (sRows Mx.l6), .sl 2 57 (aRows Mx.la)] 188 ?_ ?_
  · refine W.of_WE hT mixed M_f4 _ (by kernel_rfl) ?_
    rcases hpMx with ⟨rfl, rfl, rfl⟩ | ⟨rfl, rfl⟩
    · simp [kx]
      refine Wk.trans (Wk.adoptB 60 0 4 55 (bt := 25) (cells := [.nils, .nils, .nils]) (by omega) (by simp) rfl) ?_
      refine Wk.trans (Wk.adoptB 60 1 4 55 (bt := 25) (cells := [.own 84, .nils, .nils]) (by omega) (by simp) rfl) ?_
      refine Wk.trans (Wk.adoptB 60 2 2 57 (bt := 25) (cells := [.own 84, .own 85, .nils]) (by omega) (by simp) rfl) ?_
      exact norm_wk [0, 1, 2, 3, 4, 5, 6, 7, 8, 9, 10, 11, 60, 84, 85, 86] (by simp [wkOkx, tmOk, dfOk, hpOk, sRows, aRows, RS0])
    · simp [kx]
      exact norm_wk [0, 1, 2, 3, 4, 5, 6, 7, 8, 9, 10, 11, 60, 28, 29, 30] (by simp [wkOkx, tmOk, dfOk, hpOk])
  intro _
  refine W.cutw True [(2, .rptr [.rd 4 (sRows a.l4), .rd 4 (sRows a.l6), .rd 2 (aRows a.la)] 0), (3, .rptr [.rd 4 (sRows b.l4), .rd 4 (sRows b.l6), .rd 2 (aRows b.la)] 0), (5, .rptr [.rd 4 (sRows a.l4), .rd 4 (sRows a.l6), .rd 2 (aRows a.la)] 0), (6, .rptr [.rd 4 (sRows b.l4), .rd 4 (sRows b.l6), .rd 2 (aRows b.la)] 0), (7, .ptr 0 0), (11, .ptr 4 0), (16, .ptr 8 0), (15, .bool true), (18, .ptr 12 0), (12, .int .i64 cx), (19, .rptr [.rd 4 (sRows Mx.l4), .rd 4 (sRows Mx.l6), .rd 2 (aRows Mx.la)] 0), (14, .int .i64 cx)] [.box 25 [.own 1, .own 2, .own 3], .sl 4 55 (sRows Mm.l4), .sl 4 55 (sRows Mm.l6), .sl 2 57 (aRows Mm.la), .box 25 [.own 5, .own 6, .own 7], .sl 4 55 (sRows Mu.l4), .sl 4 55 (sRows Mu.l6), .sl 2 57 (aRows Mu.la), .box 25 [.own 9, .own 10, .own 11], .sl 4 55 (sRows Mi.l4), .sl 4 55 (sRows Mi.l6), .sl 2 57 (aRows Mi.la), .box 25 [.own 13, .own 14, .own 15], .sl 4 55 (sRows Mx.l4), .sl 4 55 (sRows Mx.l6), .sl 2 57 (aRows Mx.la)] 188 ?_ ?_
  · refine W.of_WE hT mixed M_f4 _ (by kernel_rfl) ?_
    rcases hpMx with ⟨rfl, rfl, rfl⟩ | ⟨rfl, rfl⟩
    · simp [kx']
      refine Wk.trans (Wk.weakB 64 (bt := 25) (cells := [.nils, .nils, .nils]) [.rd 4 [], .rd 4 [], .rd 2 []] (by simp) nils_RL) ?_
      refine Wk.trans (Wk.freeze 64 (.box 25 [.rd 4 [], .rd 4 [], .rd 2 []]) (by simp) (by simp)) ?_
      exact norm_wk [0, 1, 2, 3, 4, 5, 6, 7, 8, 9, 10, 11, 12, 13, 14, 15] (by simp [wkOkx, tmOk, dfOk, hpOk, sRows, aRows, RS0])
    · simp [kx']
      refine Wk.trans (Wk.freeze 64 (.box 25 [.rd 4 (sRows Mx.l4), .rd 4 (sRows Mx.l6), .rd 2 (aRows Mx.la)]) (by simp) (by simp)) ?_
      exact norm_wk [0, 1, 2, 3, 4, 5, 6, 7, 8, 9, 10, 11, 12, 13, 14, 15] (by simp [wkOkx, tmOk, dfOk, hpOk])
  intro _
  refine W.cutw True [(2, .rptr [.rd 4 (sRows a.l4), .rd 4 (sRows a.l6), .rd 2 (aRows a.la)] 0), (3, .rptr [.rd 4 (sRows b.l4), .rd 4 (sRows b.l6), .rd 2 (aRows b.la)] 0), (5, .rptr [.rd 4 (sRows a.l4), .rd 4 (sRows a.l6), .rd 2 (aRows a.la)] 0), (6, .rptr [.rd 4 (sRows b.l4), .rd 4 (sRows b.l6), .rd 2 (aRows b.la)] 0), (7, .ptr 0 0), (11, .ptr 4 0), (16, .ptr 8 0), (18, .ptr 12 0), (15, .bool true)] [.box 25 [.own 1, .own 2, .own 3], .sl 4 55 (sRows Mm.l4), .sl 4 55 (sRows Mm.l6), .sl 2 57 (aRows Mm.la), .box 25 [.own 5, .own 6, .own 7], .sl 4 55 (sRows Mu.l4), .sl 4 55 (sRows Mu.l6), .sl 2 57 (aRows Mu.la), .box 25 [.own 9, .own 10, .own 11], .sl 4 55 (sRows Mi.l4), .sl 4 55 (sRows Mi.l6), .sl 2 57 (aRows Mi.la), .box 25 [.own 13, .own 14, .own 15], .sl 4 55 (sRows Mx.l4), .sl 4 55 (sRows Mx.l6), .sl 2 57 (aRows Mx.la)] 188 ?_ ?_
  · refine W.of_WE hT mixed M_f4 _ (by kernel_rfl) ?_
    simp [ksx]
    exact norm_wk [0, 1, 2, 3, 4, 5, 6, 7, 8, 9, 10, 11, 12, 13, 14, 15] (by simp [wkOkx, tmOk, dfOk, hpOk])
  intro _
  refine W.cut True [(2, .rptr [.rd 4 (sRows a.l4), .rd 4 (sRows a.l6), .rd 2 (aRows a.la)] 0), (3, .rptr [.rd 4 (sRows b.l4), .rd 4 (sRows b.l6), .rd 2 (aRows b.la)] 0), (5, .rptr [.rd 4 (sRows a.l4), .rd 4 (sRows a.l6), .rd 2 (aRows a.la)] 0), (6, .rptr [.rd 4 (sRows b.l4), .rd 4 (sRows b.l6), .rd 2 (aRows b.la)] 0), (15, .bool true)] [] 188 ?_ ?_
  · refine W.cutw True [(2, .rptr [.rd 4 (sRows a.l4), .rd 4 (sRows a.l6), .rd 2 (aRows a.la)] 0), (3, .rptr [.rd 4 (sRows b.l4), .rd 4 (sRows b.l6), .rd 2 (aRows b.la)] 0), (5, .rptr [.rd 4 (sRows a.l4), .rd 4 (sRows a.l6), .rd 2 (aRows a.la)] 0), (6, .rptr [.rd 4 (sRows b.l4), .rd 4 (sRows b.l6), .rd 2 (aRows b.la)] 0), (15, .bool true), (132, .own 0), (133, .int .i64 4), (134, .int .i64 0)] [.slo 3 25 [[.own 1, .own 2, .own 3], [.own 4, .own 5, .own 6], [.own 7, .own 8, .own 9], [.own 10, .own 11, .own 12]], .sl 4 55 (sRows Mm.l4), .sl 4 55 (sRows Mm.l6), .sl 2 57 (aRows Mm.la), .sl 4 55 (sRows Mu.l4), .sl 4 55 (sRows Mu.l6), .sl 2 57 (aRows Mu.la), .sl 4 55 (sRows Mi.l4), .sl 4 55 (sRows Mi.l6), .sl 2 57 (aRows Mi.la), .sl 4 55 (sRows Mx.l4), .sl 4 55 (sRows Mx.l6), .sl 2 57 (aRows Mx.la)] 188 ?_ ?_
    · refine W.of_WE hT mixed M_f4 _ (by kernel_rfl) ?_
      simp
      exact norm_wk [48, 1, 2, 3, 5, 6, 7, 9, 10, 11, 13, 14, 15] (by simp [wkOkx, tmOk, dfOk, hpOk])
    intro _
    clear hA hB tw same big kca km km' ku ku' ki ki' kx kx' ksm ksu ksi ksx hpMm hpMu hpMi hpMx gA gB
    refine W.block (W.fam (ι := LS) (fun i => [(2, .rptr [.rd 4 (sRows a.l4), .rd 4 (sRows a.l6), .rd 2 (aRows a.la)] 0), (3, .rptr [.rd 4 (sRows b.l4), .rd 4 (sRows b.l6), .rd 2 (aRows b.la)] 0), (5, .rptr [.rd 4 (sRows a.l4), .rd 4 (sRows a.l6), .rd 2 (aRows a.la)] 0), (6, .rptr [.rd 4 (sRows b.l4), .rd 4 (sRows b.l6), .rd 2 (aRows b.la)] 0), (15, .bool true), (132, .own 0), (133, .int .i64 4), (134, .int .i64 i.j)]) (fun i => [.slo 3 25 [[.own 1, .own 2, .own 3], [.own 4, .own 5, .own 6], [.own 7, .own 8, .own 9], [.own 10, .own 11, .own 12]], .sl 4 55 (sRows i.m.l4), .sl 4 55 (sRows i.m.l6), .sl 2 57 (aRows i.m.la), .sl 4 55 (sRows i.u.l4), .sl 4 55 (sRows i.u.l6), .sl 2 57 (aRows i.u.la), .sl 4 55 (sRows i.i.l4), .sl 4 55 (sRows i.i.l6), .sl 2 57 (aRows i.i.la), .sl 4 55 (sRows i.x.l4), .sl 4 55 (sRows i.x.l6), .sl 2 57 (aRows i.x.la)]) 188 (fun i => 4 - i.j) ⟨0, Mm, Mu, Mi, Mx, lMm, lMu, lMi, lMx⟩ ?_ ?_)
    · exact ⟨[0, 1, 2, 3, 4, 5, 6, 7, 8, 9, 10, 11, 12], by simp [wkOkx, tmOk, dfOk, hpOk]⟩
    · rintro ⟨j, m, u, i, x, hm, hu, hi, hx⟩
      match j with
      | 0 =>
        refine W.seqE hT mixed M_f4 (by kernel_rfl) ?_
        simp
        refine W.seqE hT mixed M_f4 (by kernel_rfl) ?_
        simp
        refine W.cutw True [(2, .rptr [.rd 4 (sRows a.l4), .rd 4 (sRows a.l6), .rd 2 (aRows a.la)] 0), (3, .rptr [.rd 4 (sRows b.l4), .rd 4 (sRows b.l6), .rd 2 (aRows b.la)] 0), (5, .rptr [.rd 4 (sRows a.l4), .rd 4 (sRows a.l6), .rd 2 (aRows a.la)] 0), (6, .rptr [.rd 4 (sRows b.l4), .rd 4 (sRows b.l6), .rd 2 (aRows b.la)] 0), (15, .bool true), (132, .own 0), (133, .int .i64 4), (134, .int .i64 0)] [.slo 3 25 [[.own 1, .own 2, .own 3], [.own 4, .own 5, .own 6], [.own 7, .own 8, .own 9], [.own 10, .own 11, .own 12]], .sl 4 55 (sRows (spR m).l4), .sl 4 55 (sRows (spR m).l6), .sl 2 57 (aRows (spR m).la), .sl 4 55 (sRows u.l4), .sl 4 55 (sRows u.l6), .sl 2 57 (aRows u.la), .sl 4 55 (sRows i.l4), .sl 4 55 (sRows i.l6), .sl 2 57 (aRows i.la), .sl 4 55 (sRows x.l4), .sl 4 55 (sRows x.l6), .sl 2 57 (aRows x.la)] 188 ?_ ?_
        · refine W.block ?_
          refine W.cutw True [(2, .rptr [.rd 4 (sRows a.l4), .rd 4 (sRows a.l6), .rd 2 (aRows a.la)] 0), (3, .rptr [.rd 4 (sRows b.l4), .rd 4 (sRows b.l6), .rd 2 (aRows b.la)] 0), (5, .rptr [.rd 4 (sRows a.l4), .rd 4 (sRows a.l6), .rd 2 (aRows a.la)] 0), (6, .rptr [.rd 4 (sRows b.l4), .rd 4 (sRows b.l6), .rd 2 (aRows b.la)] 0), (15, .bool true), (132, .own 0), (133, .int .i64 4), (134, .int .i64 0), (21, .ptr 13 0)] [.slo 3 25 [[.own 1, .own 2, .own 3], [.own 4, .own 5, .own 6], [.own 7, .own 8, .own 9], [.own 10, .own 11, .own 12]], .sl 4 55 (sRows m.l4), .sl 4 55 (sRows m.l6), .sl 2 57 (aRows m.la), .sl 4 55 (sRows u.l4), .sl 4 55 (sRows u.l6), .sl 2 57 (aRows u.la), .sl 4 55 (sRows i.l4), .sl 4 55 (sRows i.l6), .sl 2 57 (aRows i.la), .sl 4 55 (sRows x.l4), .sl 4 55 (sRows x.l6), .sl 2 57 (aRows x.la), .box 25 [.own 1, .own 2, .own 3]] 188 ?_ ?_
          · refine W.of_WE hT mixed M_f4 _ (by kernel_rfl) ?_
            simp
            exact norm_wk [0, 1, 2, 3, 4, 5, 6, 7, 8, 9, 10, 11, 12, 37] (by simp [wkOkx, tmOk, dfOk, hpOk])
          intro _
          refine W.cutw True [(2, .rptr [.rd 4 (sRows a.l4), .rd 4 (sRows a.l6), .rd 2 (aRows a.la)] 0), (3, .rptr [.rd 4 (sRows b.l4), .rd 4 (sRows b.l6), .rd 2 (aRows b.la)] 0), (5, .rptr [.rd 4 (sRows a.l4), .rd 4 (sRows a.l6), .rd 2 (aRows a.la)] 0), (6, .rptr [.rd 4 (sRows b.l4), .rd 4 (sRows b.l6), .rd 2 (aRows b.la)] 0), (15, .bool true), (132, .own 0), (133, .int .i64 4), (134, .int .i64 0), (21, .ptr 13 0)] [.slo 3 25 [[.own 1, .own 2, .own 3], [.own 4, .own 5, .own 6], [.own 7, .own 8, .own 9], [.own 10, .own 11, .own 12]], .sl 4 55 (sRows (m.l4.map lowS)), .sl 4 55 (sRows m.l6), .sl 2 57 (aRows m.la), .sl 4 55 (sRows u.l4), .sl 4 55 (sRows u.l6), .sl 2 57 (aRows u.la), .sl 4 55 (sRows i.l4), .sl 4 55 (sRows i.l6), .sl 2 57 (aRows i.la), .sl 4 55 (sRows x.l4), .sl 4 55 (sRows x.l6), .sl 2 57 (aRows x.la), .box 25 [.own 1, .own 2, .own 3]] 188 ?_ ?_
          · refine W.seqE hT mixed M_f4 (by kernel_rfl) ?_
            simp
            refine W.block (W.for (fun _ => True) (fun k => [(2, .rptr [.rd 4 (sRows a.l4), .rd 4 (sRows a.l6), .rd 2 (aRows a.la)] 0), (3, .rptr [.rd 4 (sRows b.l4), .rd 4 (sRows b.l6), .rd 2 (aRows b.la)] 0), (5, .rptr [.rd 4 (sRows a.l4), .rd 4 (sRows a.l6), .rd 2 (aRows a.la)] 0), (6, .rptr [.rd 4 (sRows b.l4), .rd 4 (sRows b.l6), .rd 2 (aRows b.la)] 0), (15, .bool true), (132, .own 0), (133, .int .i64 4), (134, .int .i64 0), (21, .ptr 13 0), (22, .int .i64 k)]) (fun k => [.slo 3 25 [[.own 1, .own 2, .own 3], [.own 4, .own 5, .own 6], [.own 7, .own 8, .own 9], [.own 10, .own 11, .own 12]], .sl 4 55 (sRows (upto lowS k m.l4)), .sl 4 55 (sRows m.l6), .sl 2 57 (aRows m.la), .sl 4 55 (sRows u.l4), .sl 4 55 (sRows u.l6), .sl 2 57 (aRows u.la), .sl 4 55 (sRows i.l4), .sl 4 55 (sRows i.l6), .sl 2 57 (aRows i.la), .sl 4 55 (sRows x.l4), .sl 4 55 (sRows x.l6), .sl 2 57 (aRows x.la), .box 25 [.own 1, .own 2, .own 3]]) 188 m.l4.length trivial ?_ ?_)
            · exact ⟨[0, 1, 2, 3, 4, 5, 6, 7, 8, 9, 10, 11, 12, 13], by simp [wkOkx, tmOk, dfOk, hpOk, upto_zero]⟩
            · intro k hk _
              refine W.of_WE hT mixed M_f4 _ (by kernel_rfl) ?_
              have hl : m.l4.length ≤ 200 := hm.1
              have hlen : (sRows (upto lowS k m.l4)).length = m.l4.length := by rw [sRows_len, upto_len _ hk]
              by_cases hlt : k < m.l4.length
              · have hw1 : IntKind.i64.wrap ((k : Int) + 1) = k + 1 := wr_i64 (by omega) (by omega)
                have hg := sUp_get hlt
                have hs := sUp_set hlt
                generalize sRows (upto lowS k m.l4) = RK at *
                have hlk : k < RK.length := by omega
                have hge : RK[k] = _ := Option.some.inj ((List.getElem?_eq_getElem hlk).symm.trans hg)
                simp [hlt, hw1, hlen, hlk, hge, hg]
                rw [hs]
                exact ⟨[0, 1, 2, 3, 4, 5, 6, 7, 8, 9, 10, 11, 12, 13], by simp [wkOkx, tmOk, dfOk, hpOk]⟩
              · have hkl : k = m.l4.length := by omega
                subst hkl
                simp [hlen]
                exact norm_wk [0, 1, 2, 3, 4, 5, 6, 7, 8, 9, 10, 11, 12, 13] (by simp [wkOkx, tmOk, dfOk, hpOk, upto_all, spR])
          intro _
          refine W.cutw True [(2, .rptr [.rd 4 (sRows a.l4), .rd 4 (sRows a.l6), .rd 2 (aRows a.la)] 0), (3, .rptr [.rd 4 (sRows b.l4), .rd 4 (sRows b.l6), .rd 2 (aRows b.la)] 0), (5, .rptr [.rd 4 (sRows a.l4), .rd 4 (sRows a.l6), .rd 2 (aRows a.la)] 0), (6, .rptr [.rd 4 (sRows b.l4), .rd 4 (sRows b.l6), .rd 2 (aRows b.la)] 0), (15, .bool true), (132, .own 0), (133, .int .i64 4), (134, .int .i64 0), (21, .ptr 13 0)] [.slo 3 25 [[.own 1, .own 2, .own 3], [.own 4, .own 5, .own 6], [.own 7, .own 8, .own 9], [.own 10, .own 11, .own 12]], .sl 4 55 (sRows (m.l4.map lowS)), .sl 4 55 (sRows (m.l6.map lowS)), .sl 2 57 (aRows m.la), .sl 4 55 (sRows u.l4), .sl 4 55 (sRows u.l6), .sl 2 57 (aRows u.la), .sl 4 55 (sRows i.l4), .sl 4 55 (sRows i.l6), .sl 2 57 (aRows i.la), .sl 4 55 (sRows x.l4), .sl 4 55 (sRows x.l6), .sl 2 57 (aRows x.la), .box 25 [.own 1, .own 2, .own 3]] 188 ?_ ?_
          · refine W.seqE hT mixed M_f4 (by kernel_rfl) ?_
            simp
            refine W.block (W.for (fun _ => True) (fun k => [(2, .rptr [.rd 4 (sRows a.l4), .rd 4 (sRows a.l6), .rd 2 (aRows a.la)] 0), (3, .rptr [.rd 4 (sRows b.l4), .rd 4 (sRows b.l6), .rd 2 (aRows b.la)] 0), (5, .rptr [.rd 4 (sRows a.l4), .rd 4 (sRows a.l6), .rd 2 (aRows a.la)] 0), (6, .rptr [.rd 4 (sRows b.l4), .rd 4 (sRows b.l6), .rd 2 (aRows b.la)] 0), (15, .bool true), (132, .own 0), (133, .int .i64 4), (134, .int .i64 0), (21, .ptr 13 0), (23, .int .i64 k)]) (fun k => [.slo 3 25 [[.own 1, .own 2, .own 3], [.own 4, .own 5, .own 6], [.own 7, .own 8, .own 9], [.own 10, .own 11, .own 12]], .sl 4 55 (sRows (m.l4.map lowS)), .sl 4 55 (sRows (upto lowS k m.l6)), .sl 2 57 (aRows m.la), .sl 4 55 (sRows u.l4), .sl 4 55 (sRows u.l6), .sl 2 57 (aRows u.la), .sl 4 55 (sRows i.l4), .sl 4 55 (sRows i.l6), .sl 2 57 (aRows i.la), .sl 4 55 (sRows x.l4), .sl 4 55 (sRows x.l6), .sl 2 57 (aRows x.la), .box 25 [.own 1, .own 2, .own 3]]) 188 m.l6.length trivial ?_ ?_)
            · exact ⟨[0, 1, 2, 3, 4, 5, 6, 7, 8, 9, 10, 11, 12, 13], by simp [wkOkx, tmOk, dfOk, hpOk, upto_zero]⟩
            · intro k hk _
              refine W.of_WE hT mixed M_f4 _ (by kernel_rfl) ?_
              have hl : m.l6.length ≤ 200 := hm.2.1
              have hlen : (sRows (upto lowS k m.l6)).length = m.l6.length := by rw [sRows_len, upto_len _ hk]
              by_cases hlt : k < m.l6.length
              · have hw1 : IntKind.i64.wrap ((k : Int) + 1) = k + 1 := wr_i64 (by omega) (by omega)
                have hg := sUp_get hlt
                have hs := sUp_set hlt
                generalize sRows (upto lowS k m.l6) = RK at *
                have hlk : k < RK.length := by omega
                have hge : RK[k] = _ := Option.some.inj ((List.getElem?_eq_getElem hlk).symm.trans hg)
                simp [hlt, hw1, hlen, hlk, hge, hg]
                rw [hs]
                exact ⟨[0, 1, 2, 3, 4, 5, 6, 7, 8, 9, 10, 11, 12, 13], by simp [wkOkx, tmOk, dfOk, hpOk]⟩
              · have hkl : k = m.l6.length := by omega
                subst hkl
                simp [hlen]
                exact norm_wk [0, 1, 2, 3, 4, 5, 6, 7, 8, 9, 10, 11, 12, 13] (by simp [wkOkx, tmOk, dfOk, hpOk, upto_all, spR])
          intro _
          refine W.seqE hT mixed M_f4 (by kernel_rfl) ?_
          simp
          refine W.block (W.for (fun _ => True) (fun k => [(2, .rptr [.rd 4 (sRows a.l4), .rd 4 (sRows a.l6), .rd 2 (aRows a.la)] 0), (3, .rptr [.rd 4 (sRows b.l4), .rd 4 (sRows b.l6), .rd 2 (aRows b.la)] 0), (5, .rptr [.rd 4 (sRows a.l4), .rd 4 (sRows a.l6), .rd 2 (aRows a.la)] 0), (6, .rptr [.rd 4 (sRows b.l4), .rd 4 (sRows b.l6), .rd 2 (aRows b.la)] 0), (15, .bool true), (132, .own 0), (133, .int .i64 4), (134, .int .i64 0), (21, .ptr 13 0), (24, .int .i64 k)]) (fun k => [.slo 3 25 [[.own 1, .own 2, .own 3], [.own 4, .own 5, .own 6], [.own 7, .own 8, .own 9], [.own 10, .own 11, .own 12]], .sl 4 55 (sRows (m.l4.map lowS)), .sl 4 55 (sRows (m.l6.map lowS)), .sl 2 57 (aRows (upto frA k m.la)), .sl 4 55 (sRows u.l4), .sl 4 55 (sRows u.l6), .sl 2 57 (aRows u.la), .sl 4 55 (sRows i.l4), .sl 4 55 (sRows i.l6), .sl 2 57 (aRows i.la), .sl 4 55 (sRows x.l4), .sl 4 55 (sRows x.l6), .sl 2 57 (aRows x.la), .box 25 [.own 1, .own 2, .own 3]]) 188 m.la.length trivial ?_ ?_)
          · exact ⟨[0, 1, 2, 3, 4, 5, 6, 7, 8, 9, 10, 11, 12, 13], by simp [wkOkx, tmOk, dfOk, hpOk, upto_zero]⟩
          · intro k hk _
            refine W.of_WE hT mixed M_f4 _ (by kernel_rfl) ?_
            have hl : m.la.length ≤ 200 := hm.2.2
            have hlen : (aRows (upto frA k m.la)).length = m.la.length := by rw [aRows_len, upto_len _ hk]
            by_cases hlt : k < m.la.length
            · have hw1 : IntKind.i64.wrap ((k : Int) + 1) = k + 1 := wr_i64 (by omega) (by omega)
              have hg := aUp_get hlt
              have hs := aUp_set hlt
              generalize aRows (upto frA k m.la) = RK at *
              have hlk : k < RK.length := by omega
              have hge : RK[k] = _ := Option.some.inj ((List.getElem?_eq_getElem hlk).symm.trans hg)
              simp [hlt, hw1, hlen, hlk, hge, hg]
              rw [hs]
              exact ⟨[0, 1, 2, 3, 4, 5, 6, 7, 8, 9, 10, 11, 12, 13], by simp [wkOkx, tmOk, dfOk, hpOk]⟩
            · have hkl : k = m.la.length := by omega
              subst hkl
              simp [hlen]
              exact norm_wk [0, 1, 2, 3, 4, 5, 6, 7, 8, 9, 10, 11, 12] (by simp [wkOkx, tmOk, dfOk, hpOk, upto_all, spR])
        intro _
        refine W.of_WE hT mixed M_f4 _ (by kernel_rfl) ?_
        simp
        exact ⟨⟨1, spR m, u, i, x, spR_len hm, hu, hi, hx⟩, by simp, ⟨[0, 1, 2, 3, 4, 5, 6, 7, 8, 9, 10, 11, 12], by simp [wkOkx, tmOk, dfOk, hpOk, wr_small]⟩⟩
      | 1 =>
        refine W.seqE hT mixed M_f4 (by kernel_rfl) ?_
        simp
        refine W.seqE hT mixed M_f4 (by kernel_rfl) ?_
        simp
        refine W.cutw True [(2, .rptr [.rd 4 (sRows a.l4), .rd 4 (sRows a.l6), .rd 2 (aRows a.la)] 0), (3, .rptr [.rd 4 (sRows b.l4), .rd 4 (sRows b.l6), .rd 2 (aRows b.la)] 0), (5, .rptr [.rd 4 (sRows a.l4), .rd 4 (sRows a.l6), .rd 2 (aRows a.la)] 0), (6, .rptr [.rd 4 (sRows b.l4), .rd 4 (sRows b.l6), .rd 2 (aRows b.la)] 0), (15, .bool true), (132, .own 0), (133, .int .i64 4), (134, .int .i64 1)] [.slo 3 25 [[.own 1, .own 2, .own 3], [.own 4, .own 5, .own 6], [.own 7, .own 8, .own 9], [.own 10, .own 11, .own 12]], .sl 4 55 (sRows m.l4), .sl 4 55 (sRows m.l6), .sl 2 57 (aRows m.la), .sl 4 55 (sRows (spR u).l4), .sl 4 55 (sRows (spR u).l6), .sl 2 57 (aRows (spR u).la), .sl 4 55 (sRows i.l4), .sl 4 55 (sRows i.l6), .sl 2 57 (aRows i.la), .sl 4 55 (sRows x.l4), .sl 4 55 (sRows x.l6), .sl 2 57 (aRows x.la)] 188 ?_ ?_
        · refine W.block ?_
          refine W.cutw True [(2, .rptr [.rd 4 (sRows a.l4), .rd 4 (sRows a.l6), .rd 2 (aRows a.la)] 0), (3, .rptr [.rd 4 (sRows b.l4), .rd 4 (sRows b.l6), .rd 2 (aRows b.la)] 0), (5, .rptr [.rd 4 (sRows a.l4), .rd 4 (sRows a.l6), .rd 2 (aRows a.la)] 0), (6, .rptr [.rd 4 (sRows b.l4), .rd 4 (sRows b.l6), .rd 2 (aRows b.la)] 0), (15, .bool true), (132, .own 0), (133, .int .i64 4), (134, .int .i64 1), (21, .ptr 13 0)] [.slo 3 25 [[.own 1, .own 2, .own 3], [.own 4, .own 5, .own 6], [.own 7, .own 8, .own 9], [.own 10, .own 11, .own 12]], .sl 4 55 (sRows m.l4), .sl 4 55 (sRows m.l6), .sl 2 57 (aRows m.la), .sl 4 55 (sRows u.l4), .sl 4 55 (sRows u.l6), .sl 2 57 (aRows u.la), .sl 4 55 (sRows i.l4), .sl 4 55 (sRows i.l6), .sl 2 57 (aRows i.la), .sl 4 55 (sRows x.l4), .sl 4 55 (sRows x.l6), .sl 2 57 (aRows x.la), .box 25 [.own 4, .own 5, .own 6]] 188 ?_ ?_
          · refine W.of_WE hT mixed M_f4 _ (by kernel_rfl) ?_
            simp
            exact norm_wk [0, 1, 2, 3, 4, 5, 6, 7, 8, 9, 10, 11, 12, 37] (by simp [wkOkx, tmOk, dfOk, hpOk])
          intro _
          refine W.cutw True [(2, .rptr [.rd 4 (sRows a.l4), .rd 4 (sRows a.l6), .rd 2 (aRows a.la)] 0), (3, .rptr [.rd 4 (sRows b.l4), .rd 4 (sRows b.l6), .rd 2 (aRows b.la)] 0), (5, .rptr [.rd 4 (sRows a.l4), .rd 4 (sRows a.l6), .rd 2 (aRows a.la)] 0), (6, .rptr [.rd 4 (sRows b.l4), .rd 4 (sRows b.l6), .rd 2 (aRows b.la)] 0), (15, .bool true), (132, .own 0), (133, .int .i64 4), (134, .int .i64 1), (21, .ptr 13 0)] [.slo 3 25 [[.own 1, .own 2, .own 3], [.own 4, .own 5, .own 6], [.own 7, .own 8, .own 9], [.own 10, .own 11, .own 12]], .sl 4 55 (sRows m.l4), .sl 4 55 (sRows m.l6), .sl 2 57 (aRows m.la), .sl 4 55 (sRows (u.l4.map lowS)), .sl 4 55 (sRows u.l6), .sl 2 57 (aRows u.la), .sl 4 55 (sRows i.l4), .sl 4 55 (sRows i.l6), .sl 2 57 (aRows i.la), .sl 4 55 (sRows x.l4), .sl 4 55 (sRows x.l6), .sl 2 57 (aRows x.la), .box 25 [.own 4, .own 5, .own 6]] 188 ?_ ?_
          · refine W.seqE hT mixed M_f4 (by kernel_rfl) ?_
            simp
            refine W.block (W.for (fun _ => True) (fun k => [(2, .rptr [.rd 4 (sRows a.l4), .rd 4 (sRows a.l6), .rd 2 (aRows a.la)] 0), (3, .rptr [.rd 4 (sRows b.l4), .rd 4 (sRows b.l6), .rd 2 (aRows b.la)] 0), (5, .rptr [.rd 4 (sRows a.l4), .rd 4 (sRows a.l6), .rd 2 (aRows a.la)] 0), (6, .rptr [.rd 4 (sRows b.l4), .rd 4 (sRows b.l6), .rd 2 (aRows b.la)] 0), (15, .bool true), (132, .own 0), (133, .int .i64 4), (134, .int .i64 1), (21, .ptr 13 0), (22, .int .i64 k)]) (fun k => [.slo 3 25 [[.own 1, .own 2, .own 3], [.own 4, .own 5, .own 6], [.own 7, .own 8, .own 9], [.own 10, .own 11, .own 12]], .sl 4 55 (sRows m.l4), .sl 4 55 (sRows m.l6), .sl 2 57 (aRows m.la), .sl 4 55 (sRows (upto lowS k u.l4)), .sl 4 55 (sRows u.l6), .sl 2 57 (aRows u.la), .sl 4 55 (sRows i.l4), .sl 4 55 (sRows i.l6), .sl 2 57 (aRows i.la), .sl 4 55 (sRows x.l4), .sl 4 55 (sRows x.l6), .sl 2 57 (aRows x.la), .box 25 [.own 4, .own 5, .own 6]]) 188 u.l4.length trivial ?_ ?_)
            · exact ⟨[0, 1, 2, 3, 4, 5, 6, 7, 8, 9, 10, 11, 12, 13], by simp [wkOkx, tmOk, dfOk, hpOk, upto_zero]⟩
            · intro k hk _
              refine W.of_WE hT mixed M_f4 _ (by kernel_rfl) ?_
              have hl : u.l4.length ≤ 200 := hu.1
              have hlen : (sRows (upto lowS k u.l4)).length = u.l4.length := by rw [sRows_len, upto_len _ hk]
              by_cases hlt : k < u.l4.length
              · have hw1 : IntKind.i64.wrap ((k : Int) + 1) = k + 1 := wr_i64 (by omega) (by omega)
                have hg := sUp_get hlt
                have hs := sUp_set hlt
                generalize sRows (upto lowS k u.l4) = RK at *
                have hlk : k < RK.length := by omega
                have hge : RK[k] = _ := Option.some.inj ((List.getElem?_eq_getElem hlk).symm.trans hg)
                simp [hlt, hw1, hlen, hlk, hge, hg]
                rw [hs]
                exact ⟨[0, 1, 2, 3, 4, 5, 6, 7, 8, 9, 10, 11, 12, 13], by simp [wkOkx, tmOk, dfOk, hpOk]⟩
              · have hkl : k = u.l4.length := by omega
                subst hkl
                simp [hlen]
                exact norm_wk [0, 1, 2, 3, 4, 5, 6, 7, 8, 9, 10, 11, 12, 13] (by simp [wkOkx, tmOk, dfOk, hpOk, upto_all, spR])
          intro _
          refine W.cutw True [(2, .rptr [.rd 4 (sRows a.l4), .rd 4 (sRows a.l6), .rd 2 (aRows a.la)] 0), (3, .rptr [.rd 4 (sRows b.l4), .rd 4 (sRows b.l6), .rd 2 (aRows b.la)] 0), (5, .rptr [.rd 4 (sRows a.l4), .rd 4 (sRows a.l6), .rd 2 (aRows a.la)] 0), (6, .rptr [.rd 4 (sRows b.l4), .rd 4 (sRows b.l6), .rd 2 (aRows b.la)] 0), (15, .bool true), (132, .own 0), (133, .int .i64 4), (134, .int .i64 1), (21, .ptr 13 0)] [.slo 3 25 [[.own 1, .own 2, .own 3], [.own 4, .own 5, .own 6], [.own 7, .own 8, .own 9], [.own 10, .own 11, .own 12]], .sl 4 55 (sRows m.l4), .sl 4 55 (sRows m.l6), .sl 2 57 (aRows m.la), .sl 4 55 (sRows (u.l4.map lowS)), .sl 4 55 (sRows (u.l6.map lowS)), .sl 2 57 (aRows u.la), .sl 4 55 (sRows i.l4), .sl 4 55 (sRows i.l6), .sl 2 57 (aRows i.la), .sl 4 55 (sRows x.l4), .sl 4 55 (sRows x.l6), .sl 2 57 (aRows x.la), .box 25 [.own 4, .own 5, .own 6]] 188 ?_ ?_
          · refine W.seqE hT mixed M_f4 (by kernel_rfl) ?_
            simp
            refine W.block (W.for (fun _ => True) (fun k => [(2, .rptr [.rd 4 (sRows a.l4), .rd 4 (sRows a.l6), .rd 2 (aRows a.la)] 0), (3, .rptr [.rd 4 (sRows b.l4), .rd 4 (sRows b.l6), .rd 2 (aRows b.la)] 0), (5, .rptr [.rd 4 (sRows a.l4), .rd 4 (sRows a.l6), .rd 2 (aRows a.la)] 0), (6, .rptr [.rd 4 (sRows b.l4), .rd 4 (sRows b.l6), .rd 2 (aRows b.la)] 0), (15, .bool true), (132, .own 0), (133, .int .i64 4), (134, .int .i64 1), (21, .ptr 13 0), (23, .int .i64 k)]) (fun k => [.slo 3 25 [[.own 1, .own 2, .own 3], [.own 4, .own 5, .own 6], [.own 7, .own 8, .own 9], [.own 10, .own 11, .own 12]], .sl 4 55 (sRows m.l4), .sl 4 55 (sRows m.l6), .sl 2 57 (aRows m.la), .sl 4 55 (sRows (u.l4.map lowS)), .sl 4 55 (sRows (upto lowS k u.l6)), .sl 2 57 (aRows u.la), .sl 4 55 (sRows i.l4), .sl 4 55 (sRows i.l6), .sl 2 57 (aRows i.la), .sl 4 55 (sRows x.l4), .sl 4 55 (sRows x.l6), .sl 2 57 (aRows x.la), .box 25 [.own 4, .own 5, .own 6]]) 188 u.l6.length trivial ?_ ?_)
            · exact ⟨[0, 1, 2, 3, 4, 5, 6, 7, 8, 9, 10, 11, 12, 13], by simp [wkOkx, tmOk, dfOk, hpOk, upto_zero]⟩
            · intro k hk _
              refine W.of_WE hT mixed M_f4 _ (by kernel_rfl) ?_
              have hl : u.l6.length ≤ 200 := hu.2.1
              have hlen : (sRows (upto lowS k u.l6)).length = u.l6.length := by rw [sRows_len, upto_len _ hk]
              by_cases hlt : k < u.l6.length
              · have hw1 : IntKind.i64.wrap ((k : Int) + 1) = k + 1 := wr_i64 (by omega) (by omega)
                have hg := sUp_get hlt
                have hs := sUp_set hlt
                generalize sRows (upto lowS k u.l6) = RK at *
                have hlk : k < RK.length := by omega
                have hge : RK[k] = _ := Option.some.inj ((List.getElem?_eq_getElem hlk).symm.trans hg)
                simp [hlt, hw1, hlen, hlk, hge, hg]
                rw [hs]
                exact ⟨[0, 1, 2, 3, 4, 5, 6, 7, 8, 9, 10, 11, 12, 13], by simp [wkOkx, tmOk, dfOk, hpOk]⟩
              · have hkl : k = u.l6.length := by omega
                subst hkl
                simp [hlen]
                exact norm_wk [0, 1, 2, 3, 4, 5, 6, 7, 8, 9, 10, 11, 12, 13] (by simp [wkOkx, tmOk, dfOk, hpOk, upto_all, spR])
          intro _
          refine W.seqE hT mixed M_f4 (by kernel_rfl) ?_
          simp
          refine W.block (W.for (fun _ => True) (fun k => [(2, .rptr [.rd 4 (sRows a.l4), .rd 4 (sRows a.l6), .rd 2 (aRows a.la)] 0), (3, .rptr [.rd 4 (sRows b.l4), .rd 4 (sRows b.l6), .rd 2 (aRows b.la)] 0), (5, .rptr [.rd 4 (sRows a.l4), .rd 4 (sRows a.l6), .rd 2 (aRows a.la)] 0), (6, .rptr [.rd 4 (sRows b.l4), .rd 4 (sRows b.l6), .rd 2 (aRows b.la)] 0), (15, .bool true), (132, .own 0), (133, .int .i64 4), (134, .int .i64 1), (21, .ptr 13 0), (24, .int .i64 k)]) (fun k => [.slo 3 25 [[.own 1, .own 2, .own 3], [.own 4, .own 5, .own 6], [.own 7, .own 8, .own 9], [.own 10, .own 11, .own 12]], .sl 4 55 (sRows m.l4), .sl 4 55 (sRows m.l6), .sl 2 57 (aRows m.la), .sl 4 55 (sRows (u.l4.map lowS)), .sl 4 55 (sRows (u.l6.map lowS)), .sl 2 57 (aRows (upto frA k u.la)), .sl 4 55 (sRows i.l4), .sl 4 55 (sRows i.l6), .sl 2 57 (aRows i.la), .sl 4 55 (sRows x.l4), .sl 4 55 (sRows x.l6), .sl 2 57 (aRows x.la), .box 25 [.own 4, .own 5, .own 6]]) 188 u.la.length trivial ?_ ?_)
          · exact ⟨[0, 1, 2, 3, 4, 5, 6, 7, 8, 9, 10, 11, 12, 13], by simp [wkOkx, tmOk, dfOk, hpOk, upto_zero]⟩
          · intro k hk _
            refine W.of_WE hT mixed M_f4 _ (by kernel_rfl) ?_
            have hl : u.la.length ≤ 200 := hu.2.2
            have hlen : (aRows (upto frA k u.la)).length = u.la.length := by rw [aRows_len, upto_len _ hk]
            by_cases hlt : k < u.la.length
            · have hw1 : IntKind.i64.wrap ((k : Int) + 1) = k + 1 := wr_i64 (by omega) (by omega)
              have hg := aUp_get hlt
              have hs := aUp_set hlt
              generalize aRows (upto frA k u.la) = RK at *
              have hlk : k < RK.length := by omega
              have hge : RK[k] = _ := Option.some.inj ((List.getElem?_eq_getElem hlk).symm.trans hg)
              simp [hlt, hw1, hlen, hlk, hge, hg]
              rw [hs]
              exact ⟨[0, 1, 2, 3, 4, 5, 6, 7, 8, 9, 10, 11, 12, 13], by simp [wkOkx, tmOk, dfOk, hpOk]⟩
            · have hkl : k = u.la.length := by omega
              subst hkl
              simp [hlen]
              exact norm_wk [0, 1, 2, 3, 4, 5, 6, 7, 8, 9, 10, 11, 12] (by simp [wkOkx, tmOk, dfOk, hpOk, upto_all, spR])
        intro _
        refine W.of_WE hT mixed M_f4 _ (by kernel_rfl) ?_
        simp
        exact ⟨⟨2, m, spR u, i, x, hm, spR_len hu, hi, hx⟩, by simp, ⟨[0, 1, 2, 3, 4, 5, 6, 7, 8, 9, 10, 11, 12], by simp [wkOkx, tmOk, dfOk, hpOk, wr_small]⟩⟩
      | 2 =>
        refine W.seqE hT mixed M_f4 (by kernel_rfl) ?_
        simp
        refine W.seqE hT mixed M_f4 (by kernel_rfl) ?_
        simp
        refine W.cutw True [(2, .rptr [.rd 4 (sRows a.l4), .rd 4 (sRows a.l6), .rd 2 (aRows a.la)] 0), (3, .rptr [.rd 4 (sRows b.l4), .rd 4 (sRows b.l6), .rd 2 (aRows b.la)] 0), (5, .rptr [.rd 4 (sRows a.l4), .rd 4 (sRows a.l6), .rd 2 (aRows a.la)] 0), (6, .rptr [.rd 4 (sRows b.l4), .rd 4 (sRows b.l6), .rd 2 (aRows b.la)] 0), (15, .bool true), (132, .own 0), (133, .int .i64 4), (134, .int .i64 2)] [.slo 3 25 [[.own 1, .own 2, .own 3], [.own 4, .own 5, .own 6], [.own 7, .own 8, .own 9], [.own 10, .own 11, .own 12]], .sl 4 55 (sRows m.l4), .sl 4 55 (sRows m.l6), .sl 2 57 (aRows m.la), .sl 4 55 (sRows u.l4), .sl 4 55 (sRows u.l6), .sl 2 57 (aRows u.la), .sl 4 55 (sRows (spR i).l4), .sl 4 55 (sRows (spR i).l6), .sl 2 57 (aRows (spR i).la), .sl 4 55 (sRows x.l4), .sl 4 55 (sRows x.l6), .sl 2 57 (aRows x.la)] 188 ?_ ?_
        · refine W.block ?_
          refine W.cutw True [(2, .rptr [.rd 4 (sRows a.l4), .rd 4 (sRows a.l6), .rd 2 (aRows a.la)] 0), (3, .rptr [.rd 4 (sRows b.l4), .rd 4 (sRows b.l6), .rd 2 (aRows b.la)] 0), (5, .rptr [.rd 4 (sRows a.l4), .rd 4 (sRows a.l6), .rd 2 (aRows a.la)] 0), (6, .rptr [.rd 4 (sRows b.l4), .rd 4 (sRows b.l6), .rd 2 (aRows b.la)] 0), (15, .bool true), (132, .own 0), (133, .int .i64 4), (134, .int .i64 2), (21, .ptr 13 0)] [.slo 3 25 [[.own 1, .own 2, .own 3], [.own 4, .own 5, .own 6], [.own 7, .own 8, .own 9], [.own 10, .own 11, .own 12]], .sl 4 55 (sRows m.l4), .sl 4 55 (sRows m.l6), .sl 2 57 (aRows m.la), .sl 4 55 (sRows u.l4), .sl 4 55 (sRows u.l6), .sl 2 57 (aRows u.la), .sl 4 55 (sRows i.l4), .sl 4 55 (sRows i.l6), .sl 2 57 (aRows i.la), .sl 4 55 (sRows x.l4), .sl 4 55 (sRows x.l6), .sl 2 57 (aRows x.la), .box 25 [.own 7, .own 8, .own 9]] 188 ?_ ?_
          · refine W.of_WE hT mixed M_f4 _ (by kernel_rfl) ?_
            simp
            exact norm_wk [0, 1, 2, 3, 4, 5, 6, 7, 8, 9, 10, 11, 12, 37] (by simp [wkOkx, tmOk, dfOk, hpOk])
          intro _
          refine W.cutw True [(2, .rptr [.rd 4 (sRows a.l4), .rd 4 (sRows a.l6), .rd 2 (aRows a.la)] 0), (3, .rptr [.rd 4 (sRows b.l4), .rd 4 (sRows b.l6), .rd 2 (aRows b.la)] 0), (5, .rptr [.rd 4 (sRows a.l4), .rd 4 (sRows a.l6), .rd 2 (aRows a.la)] 0), (6, .rptr [.rd 4 (sRows b.l4), .rd 4 (sRows b.l6), .rd 2 (aRows b.la)] 0), (15, .bool true), (132, .own 0), (133, .int .i64 4), (134, .int .i64 2), (21, .ptr 13 0)] [.slo 3 25 [[.own 1, .own 2, .own 3], [.own 4, .own 5, .own 6], [.own 7, .own 8, .own 9], [.own 10, .own 11, .own 12]], .sl 4 55 (sRows m.l4), .sl 4 55 (sRows m.l6), .sl 2 57 (aRows m.la), .sl 4 55 (sRows u.l4), .sl 4 55 (sRows u.l6), .sl 2 57 (aRows u.la), .sl 4 55 (sRows (i.l4.map lowS)), .sl 4 55 (sRows i.l6), .sl 2 57 (aRows i.la), .sl 4 55 (sRows x.l4), .sl 4 55 (sRows x.l6), .sl 2 57 (aRows x.la), .box 25 [.own 7, .own 8, .own 9]] 188 ?_ ?_
          · refine W.seqE hT mixed M_f4 (by kernel_rfl) ?_
            simp
            refine W.block (W.for (fun _ => True) (fun k => [(2, .rptr [.rd 4 (sRows a.l4), .rd 4 (sRows a.l6), .rd 2 (aRows a.la)] 0), (3, .rptr [.rd 4 (sRows b.l4), .rd 4 (sRows b.l6), .rd 2 (aRows b.la)] 0), (5, .rptr [.rd 4 (sRows a.l4), .rd 4 (sRows a.l6), .rd 2 (aRows a.la)] 0), (6, .rptr [.rd 4 (sRows b.l4), .rd 4 (sRows b.l6), .rd 2 (aRows b.la)] 0), (15, .bool true), (132, .own 0), (133, .int .i64 4), (134, .int .i64 2), (21, .ptr 13 0), (22, .int .i64 k)]) (fun k => [.slo 3 25 [[.own 1, .own 2, .own 3], [.own 4, .own 5, .own 6], [.own 7, .own 8, .own 9], [.own 10, .own 11, .own 12]], .sl 4 55 (sRows m.l4), .sl 4 55 (sRows m.l6), .sl 2 57 (aRows m.la), .sl 4 55 (sRows u.l4), .sl 4 55 (sRows u.l6), .sl 2 57 (aRows u.la), .sl 4 55 (sRows (upto lowS k i.l4)), .sl 4 55 (sRows i.l6), .sl 2 57 (aRows i.la), .sl 4 55 (sRows x.l4), .sl 4 55 (sRows x.l6), .sl 2 57 (aRows x.la), .box 25 [.own 7, .own 8, .own 9]]) 188 i.l4.length trivial ?_ ?_)
            · exact ⟨[0, 1, 2, 3, 4, 5, 6, 7, 8, 9, 10, 11, 12, 13], by simp [wkOkx, tmOk, dfOk, hpOk, upto_zero]⟩
            · intro k hk _
              refine W.of_WE hT mixed M_f4 _ (by kernel_rfl) ?_
              have hl : i.l4.length ≤ 200 := hi.1
              have hlen : (sRows (upto lowS k i.l4)).length = i.l4.length := by rw [sRows_len, upto_len _ hk]
              by_cases hlt : k < i.l4.length
              · have hw1 : IntKind.i64.wrap ((k : Int) + 1) = k + 1 := wr_i64 (by omega) (by omega)
                have hg := sUp_get hlt
                have hs := sUp_set hlt
                generalize sRows (upto lowS k i.l4) = RK at *
                have hlk : k < RK.length := by omega
                have hge : RK[k] = _ := Option.some.inj ((List.getElem?_eq_getElem hlk).symm.trans hg)
                simp [hlt, hw1, hlen, hlk, hge, hg]
                rw [hs]
                exact ⟨[0, 1, 2, 3, 4, 5, 6, 7, 8, 9, 10, 11, 12, 13], by simp [wkOkx, tmOk, dfOk, hpOk]⟩
              · have hkl : k = i.l4.length := by omega
                subst hkl
                simp [hlen]
                exact norm_wk [0, 1, 2, 3, 4, 5, 6, 7, 8, 9, 10, 11, 12, 13] (by simp [wkOkx, tmOk, dfOk, hpOk, upto_all, spR])
          intro _
          refine W.cutw True [(2, .rptr [.rd 4 (sRows a.l4), .rd 4 (sRows a.l6), .rd 2 (aRows a.la)] 0), (3, .rptr [.rd 4 (sRows b.l4), .rd 4 (sRows b.l6), .rd 2 (aRows b.la)] 0), (5, .rptr [.rd 4 (sRows a.l4), .rd 4 (sRows a.l6), .rd 2 (aRows a.la)] 0), (6, .rptr [.rd 4 (sRows b.l4), .rd 4 (sRows b.l6), .rd 2 (aRows b.la)] 0), (15, .bool true), (132, .own 0), (133, .int .i64 4), (134, .int .i64 2), (21, .ptr 13 0)] [.slo 3 25 [[.own 1, .own 2, .own 3], [.own 4, .own 5, .own 6], [.own 7, .own 8, .own 9], [.own 10, .own 11, .own 12]], .sl 4 55 (sRows m.l4), .sl 4 55 (sRows m.l6), .sl 2 57 (aRows m.la), .sl 4 55 (sRows u.l4), .sl 4 55 (sRows u.l6), .sl 2 57 (aRows u.la), .sl 4 55 (sRows (i.l4.map lowS)), .sl 4 55 (sRows (i.l6.map lowS)), .sl 2 57 (aRows i.la), .sl 4 55 (sRows x.l4), .sl 4 55 (sRows x.l6), .sl 2 57 (aRows x.la), .box 25 [.own 7, .own 8, .own 9]] 188 ?_ ?_
          · refine W.seqE hT mixed M_f4 (by kernel_rfl) ?_
            simp
            refine W.block (W.for (fun _ => True) (fun k => [(2, .rptr [.rd 4 (sRows a.l4), .rd 4 (sRows a.l6), .rd 2 (aRows a.la)] 0), (3, .rptr [.rd 4 (sRows b.l4), .rd 4 (sRows b.l6), .rd 2 (aRows b.la)] 0), (5, .rptr [.rd 4 (sRows a.l4), .rd 4 (sRows a.l6), .rd 2 (aRows a.la)] 0), (6, .rptr [.rd 4 (sRows b.l4), .rd 4 (sRows b.l6), .rd 2 (aRows b.la)] 0), (15, .bool true), (132, .own 0), (133, .int .i64 4), (134, .int .i64 2), (21, .ptr 13 0), (23, .int .i64 k)]) (fun k => [.slo 3 25 [[.own 1, .own 2, .own 3], [.own 4, .own 5, .own 6], [.own 7, .own 8, .own 9], [.own 10, .own 11, .own 12]], .sl 4 55 (sRows m.l4), .sl 4 55 (sRows m.l6), .sl 2 57 (aRows m.la), .sl 4 55 (sRows u.l4), .sl 4 55 (sRows u.l6), .sl 2 57 (aRows u.la), .sl 4 55 (sRows (i.l4.map lowS)), .sl 4 55 (sRows (upto lowS k i.l6)), .sl 2 57 (aRows i.la), .sl 4 55 (sRows x.l4), .sl 4 55 (sRows x.l6), .sl 2 57 (aRows x.la), .box 25 [.own 7, .own 8, .own 9]]) 188 i.l6.length trivial ?_ ?_)
            · exact ⟨[0, 1, 2, 3, 4, 5, 6, 7, 8, 9, 10, 11, 12, 13], by simp [wkOkx, tmOk, dfOk, hpOk, upto_zero]⟩
            · intro k hk _
              refine W.of_WE hT mixed M_f4 _ (by kernel_rfl) ?_
              have hl : i.l6.length ≤ 200 := hi.2.1
              have hlen : (sRows (upto lowS k i.l6)).length = i.l6.length := by rw [sRows_len, upto_len _ hk]
              by_cases hlt : k < i.l6.length
              · have hw1 : IntKind.i64.wrap ((k : Int) + 1) = k + 1 := wr_i64 (by omega) (by omega)
                have hg := sUp_get hlt
                have hs := sUp_set hlt
                generalize sRows (upto lowS k i.l6) = RK at *
                have hlk : k < RK.length := by omega
                have hge : RK[k] = _ := Option.some.inj ((List.getElem?_eq_getElem hlk).symm.trans hg)
                simp [hlt, hw1, hlen, hlk, hge, hg]
                rw [hs]
                exact ⟨[0, 1, 2, 3, 4, 5, 6, 7, 8, 9, 10, 11, 12, 13], by simp [wkOkx, tmOk, dfOk, hpOk]⟩
              · have hkl : k = i.l6.length := by omega
                subst hkl
                simp [hlen]
                exact norm_wk [0, 1, 2, 3, 4, 5, 6, 7, 8, 9, 10, 11, 12, 13] (by simp [wkOkx, tmOk, dfOk, hpOk, upto_all, spR])
          intro _
          refine W.seqE hT mixed M_f4 (by kernel_rfl) ?_
          simp
          refine W.block (W.for (fun _ => True) (fun k => [(2, .rptr [.rd 4 (sRows a.l4), .rd 4 (sRows a.l6), .rd 2 (aRows a.la)] 0), (3, .rptr [.rd 4 (sRows b.l4), .rd 4 (sRows b.l6), .rd 2 (aRows b.la)] 0), (5, .rptr [.rd 4 (sRows a.l4), .rd 4 (sRows a.l6), .rd 2 (aRows a.la)] 0), (6, .rptr [.rd 4 (sRows b.l4), .rd 4 (sRows b.l6), .rd 2 (aRows b.la)] 0), (15, .bool true), (132, .own 0), (133, .int .i64 4), (134, .int .i64 2), (21, .ptr 13 0), (24, .int .i64 k)]) (fun k => [.slo 3 25 [[.own 1, .own 2, .own 3], [.own 4, .own 5, .own 6], [.own 7, .own 8, .own 9], [.own 10, .own 11, .own 12]], .sl 4 55 (sRows m.l4), .sl 4 55 (sRows m.l6), .sl 2 57 (aRows m.la), .sl 4 55 (sRows u.l4), .sl 4 55 (sRows u.l6), .sl 2 57 (aRows u.la), .sl 4 55 (sRows (i.l4.map lowS)), .sl 4 55 (sRows (i.l6.map lowS)), .sl 2 57 (aRows (upto frA k i.la)), .sl 4 55 (sRows x.l4), .sl 4 55 (sRows x.l6), .sl 2 57 (aRows x.la), .box 25 [.own 7, .own 8, .own 9]]) 188 i.la.length trivial ?_ ?_)
          · exact ⟨[0, 1, 2, 3, 4, 5, 6, 7, 8, 9, 10, 11, 12, 13], by simp [wkOkx, tmOk, dfOk, hpOk, upto_zero]⟩
          · intro k hk _
            refine W.of_WE hT mixed M_f4 _ (by kernel_rfl) ?_
            have hl : i.la.length ≤ 200 := hi.2.2
            have hlen : (aRows (upto frA k i.la)).length = i.la.length := by rw [aRows_len, upto_len _ hk]
            by_cases hlt : k < i.la.length
            · have hw1 : IntKind.i64.wrap ((k : Int) + 1) = k + 1 := wr_i64 (by omega) (by omega)
              have hg := aUp_get hlt
              have hs := aUp_set hlt
              generalize aRows (upto frA k i.la) = RK at *
              have hlk : k < RK.length := by omega
              have hge : RK[k] = _ := Option.some.inj ((List.getElem?_eq_getElem hlk).symm.trans hg)
              simp [hlt, hw1, hlen, hlk, hge, hg]
              rw [hs]
              exact ⟨[0, 1, 2, 3, 4, 5, 6, 7, 8, 9, 10, 11, 12, 13], by simp [wkOkx, tmOk, dfOk, hpOk]⟩
            · have hkl : k = i.la.length := by omega
              subst hkl
              simp [hlen]
              exact norm_wk [0, 1, 2, 3, 4, 5, 6, 7, 8, 9, 10, 11, 12] (by simp [wkOkx, tmOk, dfOk, hpOk, upto_all, spR])
        intro _
        refine W.of_WE hT mixed M_f4 _ (by kernel_rfl) ?_
        simp
        exact ⟨⟨3, m, u, spR i, x, hm, hu, spR_len hi, hx⟩, by simp, ⟨[0, 1, 2, 3, 4, 5, 6, 7, 8, 9, 10, 11, 12], by simp [wkOkx, tmOk, dfOk, hpOk, wr_small]⟩⟩
      | 3 =>
        refine W.seqE hT mixed M_f4 (by kernel_rfl) ?_
        simp
        refine W.seqE hT mixed M_f4 (by kernel_rfl) ?_
        simp
        refine W.cutw True [(2, .rptr [.rd 4 (sRows a.l4), .rd 4 (sRows a.l6), .rd 2 (aRows a.la)] 0), (3, .rptr [.rd 4 (sRows b.l4), .rd 4 (sRows b.l6), .rd 2 (aRows b.la)] 0), (5, .rptr [.rd 4 (sRows a.l4), .rd 4 (sRows a.l6), .rd 2 (aRows a.la)] 0), (6, .rptr [.rd 4 (sRows b.l4), .rd 4 (sRows b.l6), .rd 2 (aRows b.la)] 0), (15, .bool true), (132, .own 0), (133, .int .i64 4), (134, .int .i64 3)] [.slo 3 25 [[.own 1, .own 2, .own 3], [.own 4, .own 5, .own 6], [.own 7, .own 8, .own 9], [.own 10, .own 11, .own 12]], .sl 4 55 (sRows m.l4), .sl 4 55 (sRows m.l6), .sl 2 57 (aRows m.la), .sl 4 55 (sRows u.l4), .sl 4 55 (sRows u.l6), .sl 2 57 (aRows u.la), .sl 4 55 (sRows i.l4), .sl 4 55 (sRows i.l6), .sl 2 57 (aRows i.la), .sl 4 55 (sRows (spR x).l4), .sl 4 55 (sRows (spR x).l6), .sl 2 57 (aRows (spR x).la)] 188 ?_ ?_
        · refine W.block ?_
          refine W.cutw True [(2, .rptr [.rd 4 (sRows a.l4), .rd 4 (sRows a.l6), .rd 2 (aRows a.la)] 0), (3, .rptr [.rd 4 (sRows b.l4), .rd 4 (sRows b.l6), .rd 2 (aRows b.la)] 0), (5, .rptr [.rd 4 (sRows a.l4), .rd 4 (sRows a.l6), .rd 2 (aRows a.la)] 0), (6, .rptr [.rd 4 (sRows b.l4), .rd 4 (sRows b.l6), .rd 2 (aRows b.la)] 0), (15, .bool true), (132, .own 0), (133, .int .i64 4), (134, .int .i64 3), (21, .ptr 13 0)] [.slo 3 25 [[.own 1, .own 2, .own 3], [.own 4, .own 5, .own 6], [.own 7, .own 8, .own 9], [.own 10, .own 11, .own 12]], .sl 4 55 (sRows m.l4), .sl 4 55 (sRows m.l6), .sl 2 57 (aRows m.la), .sl 4 55 (sRows u.l4), .sl 4 55 (sRows u.l6), .sl 2 57 (aRows u.la), .sl 4 55 (sRows i.l4), .sl 4 55 (sRows i.l6), .sl 2 57 (aRows i.la), .sl 4 55 (sRows x.l4), .sl 4 55 (sRows x.l6), .sl 2 57 (aRows x.la), .box 25 [.own 10, .own 11, .own 12]] 188 ?_ ?_
          · refine W.of_WE hT mixed M_f4 _ (by kernel_rfl) ?_
            simp
            exact norm_wk [0, 1, 2, 3, 4, 5, 6, 7, 8, 9, 10, 11, 12, 37] (by simp [wkOkx, tmOk, dfOk, hpOk])
          intro _
          refine W.cutw True [(2, .rptr [.rd 4 (sRows a.l4), .rd 4 (sRows a.l6), .rd 2 (aRows a.la)] 0), (3, .rptr [.rd 4 (sRows b.l4), .rd 4 (sRows b.l6), .rd 2 (aRows b.la)] 0), (5, .rptr [.rd 4 (sRows a.l4), .rd 4 (sRows a.l6), .rd 2 (aRows a.la)] 0), (6, .rptr [.rd 4 (sRows b.l4), .rd 4 (sRows b.l6), .rd 2 (aRows b.la)] 0), (15, .bool true), (132, .own 0), (133, .int .i64 4), (134, .int .i64 3), (21, .ptr 13 0)] [.slo 3 25 [[.own 1, .own 2, .own 3], [.own 4, .own 5, .own 6], [.own 7, .own 8, .own 9], [.own 10, .own 11, .own 12]], .sl 4 55 (sRows m.l4), .sl 4 55 (sRows m.l6), .sl 2 57 (aRows m.la), .sl 4 55 (sRows u.l4), .sl 4 55 (sRows u.l6), .sl 2 57 (aRows u.la), .sl 4 55 (sRows i.l4), .sl 4 55 (sRows i.l6), .sl 2 57 (aRows i.la), .sl 4 55 (sRows (x.l4.map lowS)), .sl 4 55 (sRows x.l6), .sl 2 57 (aRows x.la), .box 25 [.own 10, .own 11, .own 12]] 188 ?_ ?_
          · refine W.seqE hT mixed M_f4 (by kernel_rfl) ?_
            simp
            refine W.block (W.for (fun _ => True) (fun k => [(2, .rptr [.rd 4 (sRows a.l4), .rd 4 (sRows a.l6), .rd 2 (aRows a.la)] 0), (3, .rptr [.rd 4 (sRows b.l4), .rd 4 (sRows b.l6), .rd 2 (aRows b.la)] 0), (5, .rptr [.rd 4 (sRows a.l4), .rd 4 (sRows a.l6), .rd 2 (aRows a.la)] 0), (6, .rptr [.rd 4 (sRows b.l4), .rd 4 (sRows b.l6), .rd 2 (aRows b.la)] 0), (15, .bool true), (132, .own 0), (133, .int .i64 4), (134, .int .i64 3), (21, .ptr 13 0), (22, .int .i64 k)]) (fun k => [.slo 3 25 [[.own 1, .own 2, .own 3], [.own 4, .own 5, .own 6], [.own 7, .own 8, .own 9], [.own 10, .own 11, .own 12]], .sl 4 55 (sRows m.l4), .sl 4 55 (sRows m.l6), .sl 2 57 (aRows m.la), .sl 4 55 (sRows u.l4), .sl 4 55 (sRows u.l6), .sl 2 57 (aRows u.la), .sl 4 55 (sRows i.l4), .sl 4 55 (sRows i.l6), .sl 2 57 (aRows i.la), .sl 4 55 (sRows (upto lowS k x.l4)), .sl 4 55 (sRows x.l6), .sl 2 57 (aRows x.la), .box 25 [.own 10, .own 11, .own 12]]) 188 x.l4.length trivial ?_ ?_)
            · exact ⟨[0, 1, 2, 3, 4, 5, 6, 7, 8, 9, 10, 11, 12, 13], by simp [wkOkx, tmOk, dfOk, hpOk, upto_zero]⟩
            · intro k hk _
              refine W.of_WE hT mixed M_f4 _ (by kernel_rfl) ?_
              have hl : x.l4.length ≤ 200 := hx.1
              have hlen : (sRows (upto lowS k x.l4)).length = x.l4.length := by rw [sRows_len, upto_len _ hk]
              by_cases hlt : k < x.l4.length
              · have hw1 : IntKind.i64.wrap ((k : Int) + 1) = k + 1 := wr_i64 (by omega) (by omega)
                have hg := sUp_get hlt
                have hs := sUp_set hlt
                generalize sRows (upto lowS k x.l4) = RK at *
                have hlk : k < RK.length := by omega
                have hge : RK[k] = _ := Option.some.inj ((List.getElem?_eq_getElem hlk).symm.trans hg)
                simp [hlt, hw1, hlen, hlk, hge, hg]
                rw [hs]
                exact ⟨[0, 1, 2, 3, 4, 5, 6, 7, 8, 9, 10, 11, 12, 13], by simp [wkOkx, tmOk, dfOk, hpOk]⟩
              · have hkl : k = x.l4.length := by omega
                subst hkl
                simp [hlen]
                exact norm_wk [0, 1, 2, 3, 4, 5, 6, 7, 8, 9, 10, 11, 12, 13] (by simp [wkOkx, tmOk, dfOk, hpOk, upto_all, spR])
          intro _
          refine W.cutw True [(2, .rptr [.rd 4 (sRows a.l4), .rd 4 (sRows a.l6), .rd 2 (aRows a.la)] 0), (3, .rptr [.rd 4 (sRows b.l4), .rd 4 (sRows b.l6), .rd 2 (aRows b.la)] 0), (5, .rptr [.rd 4 (sRows a.l4), .rd 4 (sRows a.l6), .rd 2 (aRows a.la)] 0), (6, .rptr [.rd 4 (sRows b.l4), .rd 4 (sRows b.l6), .rd 2 (aRows b.la)] 0), (15, .bool true), (132, .own 0), (133, .int .i64 4), (134, .int .i64 3), (21, .ptr 13 0)] [.slo 3 25 [[.own 1, .own 2, .own 3], [.own 4, .own 5, .own 6], [.own 7, .own 8, .own 9], [.own 10, .own 11, .own 12]], .sl 4 55 (sRows m.l4), .sl 4 55 (sRows m.l6), .sl 2 57 (aRows m.la), .sl 4 55 (sRows u.l4), .sl 4 55 (sRows u.l6), .sl 2 57 (aRows u.la), .sl 4 55 (sRows i.l4), .sl 4 55 (sRows i.l6), .sl 2 57 (aRows i.la), .sl 4 55 (sRows (x.l4.map lowS)), .sl 4 55 (sRows (x.l6.map lowS)), .sl 2 57 (aRows x.la), .box 25 [.own 10, .own 11, .own 12]] 188 ?_ ?_
          · refine W.seqE hT mixed M_f4 (by kernel_rfl) ?_
            simp
            refine W.block (W.for (fun _ => True) (fun k => [(2, .rptr [.rd 4 (sRows a.l4), .rd 4 (sRows a.l6), .rd 2 (aRows a.la)] 0), (3, .rptr [.rd 4 (sRows b.l4), .rd 4 (sRows b.l6), .rd 2 (aRows b.la)] 0), (5, .rptr [.rd 4 (sRows a.l4), .rd 4 (sRows a.l6), .rd 2 (aRows a.la)] 0), (6, .rptr [.rd 4 (sRows b.l4), .rd 4 (sRows b.l6), .rd 2 (aRows b.la)] 0), (15, .bool true), (132, .own 0), (133, .int .i64 4), (134, .int .i64 3), (21, .ptr 13 0), (23, .int .i64 k)]) (fun k => [.slo 3 25 [[.own 1, .own 2, .own 3], [.own 4, .own 5, .own 6], [.own 7, .own 8, .own 9], [.own 10, .own 11, .own 12]], .sl 4 55 (sRows m.l4), .sl 4 55 (sRows m.l6), .sl 2 57 (aRows m.la), .sl 4 55 (sRows u.l4), .sl 4 55 (sRows u.l6), .sl 2 57 (aRows u.la), .sl 4 55 (sRows i.l4), .sl 4 55 (sRows i.l6), .sl 2 57 (aRows i.la), .sl 4 55 (sRows (x.l4.map lowS)), .sl 4 55 (sRows (upto lowS k x.l6)), .sl 2 57 (aRows x.la), .box 25 [.own 10, .own 11, .own 12]]) 188 x.l6.length trivial ?_ ?_)
            · exact ⟨[0, 1, 2, 3, 4, 5, 6, 7, 8, 9, 10, 11, 12, 13], by simp [wkOkx, tmOk, dfOk, hpOk, upto_zero]⟩
            · intro k hk _
              refine W.of_WE hT mixed M_f4 _ (by kernel_rfl) ?_
              have hl : x.l6.length ≤ 200 := hx.2.1
              have hlen : (sRows (upto lowS k x.l6)).length = x.l6.length := by rw [sRows_len, upto_len _ hk]
              by_cases hlt : k < x.l6.length
              · have hw1 : IntKind.i64.wrap ((k : Int) + 1) = k + 1 := wr_i64 (by omega) (by omega)
                have hg := sUp_get hlt
                have hs := sUp_set hlt
                generalize sRows (upto lowS k x.l6) = RK at *
                have hlk : k < RK.length := by omega
                have hge : RK[k] = _ := Option.some.inj ((List.getElem?_eq_getElem hlk).symm.trans hg)
                simp [hlt, hw1, hlen, hlk, hge, hg]
                rw [hs]
                exact ⟨[0, 1, 2, 3, 4, 5, 6, 7, 8, 9, 10, 11, 12, 13], by simp [wkOkx, tmOk, dfOk, hpOk]⟩
              · have hkl : k = x.l6.length := by omega
                subst hkl
                simp [hlen]
                exact norm_wk [0, 1, 2, 3, 4, 5, 6, 7, 8, 9, 10, 11, 12, 13] (by simp [wkOkx, tmOk, dfOk, hpOk, upto_all, spR])
          intro _
          refine W.seqE hT mixed M_f4 (by kernel_rfl) ?_
          simp
          refine W.block (W.for (fun _ => True) (fun k => [(2, .rptr [.rd 4 (sRows a.l4), .rd 4 (sRows a.l6), .rd 2 (aRows a.la)] 0), (3, .rptr [.rd 4 (sRows b.l4), .rd 4 (sRows b.l6), .rd 2 (aRows b.la)] 0), (5, .rptr [.rd 4 (sRows a.l4), .rd 4 (sRows a.l6), .rd 2 (aRows a.la)] 0), (6, .rptr [.rd 4 (sRows b.l4), .rd 4 (sRows b.l6), .rd 2 (aRows b.la)] 0), (15, .bool true), (132, .own 0), (133, .int .i64 4), (134, .int .i64 3), (21, .ptr 13 0), (24, .int .i64 k)]) (fun k => [.slo 3 25 [[.own 1, .own 2, .own 3], [.own 4, .own 5, .own 6], [.own 7, .own 8, .own 9], [.own 10, .own 11, .own 12]], .sl 4 55 (sRows m.l4), .sl 4 55 (sRows m.l6), .sl 2 57 (aRows m.la), .sl 4 55 (sRows u.l4), .sl 4 55 (sRows u.l6), .sl 2 57 (aRows u.la), .sl 4 55 (sRows i.l4), .sl 4 55 (sRows i.l6), .sl 2 57 (aRows i.la), .sl 4 55 (sRows (x.l4.map lowS)), .sl 4 55 (sRows (x.l6.map lowS)), .sl 2 57 (aRows (upto frA k x.la)), .box 25 [.own 10, .own 11, .own 12]]) 188 x.la.length trivial ?_ ?_)
          · exact ⟨[0, 1, 2, 3, 4, 5, 6, 7, 8, 9, 10, 11, 12, 13], by simp [wkOkx, tmOk, dfOk, hpOk, upto_zero]⟩
          · intro k hk _
            refine W.of_WE hT mixed M_f4 _ (by kernel_rfl) ?_
            have hl : x.la.length ≤ 200 := hx.2.2
            have hlen : (aRows (upto frA k x.la)).length = x.la.length := by rw [aRows_len, upto_len _ hk]
            by_cases hlt : k < x.la.length
            · have hw1 : IntKind.i64.wrap ((k : Int) + 1) = k + 1 := wr_i64 (by omega) (by omega)
              have hg := aUp_get hlt
              have hs := aUp_set hlt
              generalize aRows (upto frA k x.la) = RK at *
              have hlk : k < RK.length := by omega
              have hge : RK[k] = _ := Option.some.inj ((List.getElem?_eq_getElem hlk).symm.trans hg)
              simp [hlt, hw1, hlen, hlk, hge, hg]
              rw [hs]
              exact ⟨[0, 1, 2, 3, 4, 5, 6, 7, 8, 9, 10, 11, 12, 13], by simp [wkOkx, tmOk, dfOk, hpOk]⟩
            · have hkl : k = x.la.length := by omega
              subst hkl
              simp [hlen]
              exact norm_wk [0, 1, 2, 3, 4, 5, 6, 7, 8, 9, 10, 11, 12] (by simp [wkOkx, tmOk, dfOk, hpOk, upto_all, spR])
        intro _
        refine W.of_WE hT mixed M_f4 _ (by kernel_rfl) ?_
        simp
        exact ⟨⟨4, m, u, i, spR x, hm, hu, hi, spR_len hx⟩, by simp, ⟨[0, 1, 2, 3, 4, 5, 6, 7, 8, 9, 10, 11, 12], by simp [wkOkx, tmOk, dfOk, hpOk, wr_small]⟩⟩
      | n + 4 =>
        refine W.of_WE hT mixed M_f4 _ (by kernel_rfl) ?_
        simp
        omega
  intro _
  refine W.of_WE hT mixed M_f4 _ (by kernel_rfl) ?_
  simp [Try.f4, ksa, ksb]

end Go.Proofs.Ytnhgdkcddjbpgaa.AL
