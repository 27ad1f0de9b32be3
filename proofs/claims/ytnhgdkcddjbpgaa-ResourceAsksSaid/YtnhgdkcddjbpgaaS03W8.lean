import Derived.Test.YtnhgdkcddjbpgaaS03W7
/- What single functions compute: a part of the proof; no conditions. -/
set_option linter.unusedVariables false
set_option linter.unusedSimpArgs false
set_option maxRecDepth 100000
namespace Go.Proofs.Ytnhgdkcddjbpgaa.AL
open Go
attribute [local simp] qf cv qbin ibin sbin qun retPost rvOk ctV ctPost marksOk retV resAll resOf V.lt ltL V.ren renL V.exp cleanL V.clean closedL V.closed V.cells V.one V.tree
  loadV cellsAt isAggD placesOf fillV putCells lstore bound seqParts V.sh shL Blk.sh newV V.ok peqs peq srcRows appOk mmV mmR hidE V.fz fzL Blk.fz fzOk and_assoc
attribute [-simp] Int.not_le Int.not_lt Nat.not_le Nat.not_lt
theorem u32r {n : Int} (h : (Lit.int .u32 n).wf = true) : 0 ≤ n ∧ n ≤ 4294967295 := by
  simp only [Lit.wf, Bool.and_eq_true, decide_eq_true_eq] at h
  have e1 : IntKind.u32.min = 0 := rfl
  have e2 : IntKind.u32.max = 4294967295 := rfl
  omega
theorem sp_of_shape {r : List V} (h : LSh [.int .u64, .int .u64, .int .u64, .int .u64] r) : ∃ a : SP, r = a.row ∧ inSP a := by
  simp only [LSh, VSh] at h
  obtain ⟨_, _, rfl, ⟨x, rfl, hx⟩, _, _, rfl, ⟨y, rfl, hy⟩, _, _, rfl, ⟨n, rfl, hn⟩, _, _, rfl, ⟨m, rfl, hm⟩, rfl⟩ := h
  refine ⟨⟨x, y, n, m⟩, rfl, ?_⟩
  have := u64_rng hx
  have := u64_rng hy
  have := u64_rng hn
  have := u64_rng hm
  unfold inSP
  simp only
  omega
theorem sps_of_shape : ∀ {rows : List (List V)}, (∀ r ∈ rows, LSh [.int .u64, .int .u64, .int .u64, .int .u64] r) → ∃ l : List SP, rows = sRows l ∧ ∀ a ∈ l, inSP a
  | [], _ => ⟨[], rfl, by simp⟩
  | r :: rows, h => by
    obtain ⟨a, rfl, ha⟩ := sp_of_shape (h r (by simp))
    obtain ⟨l, rfl, hl⟩ := sps_of_shape (rows := rows) (fun q hq => h q (by simp [hq]))
    exact ⟨a :: l, rfl, by simpa using ⟨ha, hl⟩⟩
theorem as_of_shape {r : List V} (h : LSh [.int .u32, .int .u32] r) : ∃ a : AS, r = a.row ∧ inAS a := by
  simp only [LSh, VSh] at h
  obtain ⟨_, _, rfl, ⟨x, rfl, hx⟩, _, _, rfl, ⟨y, rfl, hy⟩, rfl⟩ := h
  refine ⟨⟨x, y⟩, rfl, ?_⟩
  have := u32r hx
  have := u32r hy
  unfold inAS
  simp only
  omega
theorem ass_of_shape : ∀ {rows : List (List V)}, (∀ r ∈ rows, LSh [.int .u32, .int .u32] r) → ∃ l : List AS, rows = aRows l ∧ ∀ a ∈ l, inAS a
  | [], _ => ⟨[], rfl, by simp⟩
  | r :: rows, h => by
    obtain ⟨a, rfl, ha⟩ := as_of_shape (h r (by simp))
    obtain ⟨l, rfl, hl⟩ := ass_of_shape (rows := rows) (fun q hq => h q (by simp [hq]))
    exact ⟨a :: l, rfl, by simpa using ⟨ha, hl⟩⟩
theorem rs_of_shape {vs : List V} (h : LSh [.sl [.int .u64, .int .u64, .int .u64, .int .u64], .sl [.int .u64, .int .u64, .int .u64, .int .u64], .sl [.int .u32, .int .u32]] vs) : ∃ r : RS, vs = r.cells ∧ inRS r := by
  simp only [LSh, VSh, shLen] at h
  obtain ⟨_, _, rfl, ⟨r1, rfl, _, h1⟩, _, _, rfl, ⟨r2, rfl, _, h2⟩, _, _, rfl, ⟨r3, rfl, _, h3⟩, rfl⟩ := h
  obtain ⟨l1, rfl, g1⟩ := sps_of_shape (rows := r1) (fun r hr => by simpa only [LSh, VSh] using h1 r hr)
  obtain ⟨l2, rfl, g2⟩ := sps_of_shape (rows := r2) (fun r hr => by simpa only [LSh, VSh] using h2 r hr)
  obtain ⟨l3, rfl, g3⟩ := ass_of_shape (rows := r3) (fun r hr => by simpa only [LSh, VSh] using h3 r hr)
  exact ⟨⟨l1, l2, l3⟩, rfl, g1, g2, g3⟩
def SSameN : List V → Option Res
  | [.agg ca, .agg [.nils, .nils, .nils]] => SSameD [.agg ca, .agg RS0.cells]
  | x => SSameD x
theorem runs_sameN : ∀ args r, SSameN args = some r → Runs Try.prog 13 args r := by
  intro args r hh
  unfold SSameN at hh
  split at hh
  · rename_i ca
    refine Runs.weak (args' := [.agg ca, .agg RS0.cells]) ?_ (runs_ref03_Same _ _ hh)
    intro E vs h
    simp only [RL, R, RS0, RS.cells, sRows, aRows, List.map_nil] at h ⊢
    obtain ⟨v, vs', rfl, g0, w, vs2, rfl, ⟨ws, rfl, w1, ws1, rfl, g1, w2, ws2, rfl, g2, w3, ws3, rfl, g3, rfl⟩, rfl⟩ := h
    exact ⟨_, _, rfl, g0, _, _, rfl, ⟨_, rfl, w1, _, rfl, by subst g1; exact ⟨none, 0, rfl, Nat.le_refl _, Nat.zero_le _, by simp⟩, w2, _, rfl, by subst g2; exact ⟨none, 0, rfl, Nat.le_refl _, Nat.zero_le _, by simp⟩, w3, _, rfl, by subst g3; exact ⟨none, 0, rfl, Nat.le_refl _, Nat.zero_le _, by simp⟩, rfl⟩, rfl⟩
  · exact runs_ref03_Same _ _ hh
theorem grt_len {n : Nat} (h : grt n = false) : n ≤ 400 := by
  unfold grt at h
  simp at h
  omega
def M_f3 : Md := fun i => if i = 9 then some #[0, 0, 3, 7, 15, 15, 63, 127, 255, 511, 511, 2047, 4095, 8191, 16383, 16383, 65535, 131071, 262143, 524287, 524287, 2097151, 4194303, 8388607, 16777215, 16777215, 67108863, 134217727, 268435455, 536870911, 536870911, 2147483647, 536870911, 536870911, 17179869183, 34359738367, 68719476735, 137438953471, 274877906943, 549755813887, 274877906943, 274877906943, 4398046511103, 8796093022207, 17592186044415, 35184372088831] else some #[]
@[simp] theorem M_f3_eq {i : Nat} : M_f3 i = (if i = 9 then some #[0, 0, 3, 7, 15, 15, 63, 127, 255, 511, 511, 2047, 4095, 8191, 16383, 16383, 65535, 131071, 262143, 524287, 524287, 2097151, 4194303, 8388607, 16777215, 16777215, 67108863, 134217727, 268435455, 536870911, 536870911, 2147483647, 536870911, 536870911, 17179869183, 34359738367, 68719476735, 137438953471, 274877906943, 549755813887, 274877906943, 274877906943, 4398046511103, 8796093022207, 17592186044415, 35184372088831] else some #[]) := rfl
theorem resourceAsks_runs : ∀ As, ArgsV Try.prog Try.f3.params.toList [[.sl [.int .u64, .int .u64, .int .u64, .int .u64], .sl [.int .u64, .int .u64, .int .u64, .int .u64], .sl [.int .u32, .int .u32]], [.sl [.int .u64, .int .u64, .int .u64, .int .u64], .sl [.int .u64, .int .u64, .int .u64, .int .u64], .sl [.int .u32, .int .u32]], [.int .u8, .int .u64, .int .u64, .int .i64], [.int .u32]] As → Runs Try.prog 3 As ⟨.bool true, []⟩ := by
  intro As h
  obtain ⟨a, ia, b, ib, f, x, y, n, s, rfl, hA, hs⟩ : ∃ a : RS, inRS a ∧ ∃ b : RS, inRS b ∧ ∃ f x y n s, As = [.agg a.cells, .agg b.cells, .agg [.int .u8 f, .int .u64 x, .int .u64 y, .int .i64 n], .int .u32 s] ∧ inA x y ∧ 0 ≤ s ∧ s ≤ 4294967295 := by
    simp only [Try.f3, ArgsV] at h
    obtain ⟨_, _, V1, _, e1, rfl, h1, _, _, V2, _, e2, rfl, h2, _, _, V3, _, e3, rfl, h3, _, _, V4, _, e4, rfl, h4, rfl, rfl⟩ := h
    simp only [List.cons.injEq] at e1
    obtain ⟨rfl, rfl⟩ := e1
    simp only [List.cons.injEq] at e2
    obtain ⟨rfl, rfl⟩ := e2
    simp only [List.cons.injEq] at e3
    obtain ⟨rfl, rfl⟩ := e3
    simp only [List.cons.injEq] at e4
    obtain ⟨rfl, _⟩ := e4
    obtain ⟨a, rfl, ia⟩ := rs_of_shape h1
    obtain ⟨b, rfl, ib⟩ := rs_of_shape h2
    simp only [LSh, VSh, shLen] at h3 h4
    obtain ⟨_, _, rfl, ⟨f, rfl, hf⟩, _, _, rfl, ⟨x, rfl, hx⟩, _, _, rfl, ⟨y, rfl, hy⟩, _, _, rfl, ⟨n, rfl, hn⟩, rfl⟩ := h3
    obtain ⟨_, _, rfl, ⟨ww, rfl, hww⟩, rfl⟩ := h4
    exact ⟨a, ia, b, ib, f, x, y, n, ww, by simp [argV], ⟨(u64_rng hx).1, (u64_rng hx).2, (u64_rng hy).1, (u64_rng hy).2⟩, (u32r hww).1, (u32r hww).2⟩
  let T := (((((((((T0.add 5 SGr3).add 6 SCont).add 7 SContD).add 8 SHasP).add 9 SHasPD).add 10 SHasA).add 11 SHasAD).add 12 SSameR).add 13 SSameN).add 14 SEmpR
  have hT : T.ok Try.prog := Tab.add_ok (Tab.add_ok (Tab.add_ok (Tab.add_ok (Tab.add_ok (Tab.add_ok (Tab.add_ok (Tab.add_ok (Tab.add_ok (Tab.add_ok (T0_ok _) runs_ref03_Great) runs_resource_Contains) runs_ref03_Contains) runs_resource_HasPrefix) runs_ref03_HasPrefix) runs_resource_HasAs) runs_ref03_HasAs) runs_resource_Same) runs_sameN) runs_resource_Empty
  have gA : SGr3 [.agg a.cells] = some ⟨.bool (grt a.l4.length || grt a.l6.length || grt a.la.length), []⟩ := by
    simp [SGr3, RS.cells]
  have gB : SGr3 [.agg b.cells] = some ⟨.bool (grt b.l4.length || grt b.l6.length || grt b.la.length), []⟩ := by
    simp [SGr3, RS.cells]
  refine Runs.of_body Try.func3 (by decide) rfl (by simp [Try.f3]) ?_
  by_cases hg : (grt a.l4.length || grt a.l6.length || grt a.la.length) = false ∧ (grt b.l4.length || grt b.l6.length || grt b.la.length) = false
  · obtain ⟨g1, g2⟩ := hg
    rw [g1] at gA
    rw [g2] at gB
    simp only [Bool.or_eq_false_iff] at g1 g2
    have la : lenRS 1000000 a := ⟨by have := grt_len g1.1.1; omega, by have := grt_len g1.1.2; omega, by have := grt_len g1.2; omega⟩
    have lb : lenRS 1000000 b := ⟨by have := grt_len g2.1.1; omega, by have := grt_len g2.1.2; omega, by have := grt_len g2.2; omega⟩
    obtain ⟨c1, c2, k1, k2⟩ : ∃ c1 c2, SCont [.agg a.cells, .agg b.cells] = some ⟨.tup [.bool c1, .int .i64 c2], []⟩ ∧ SContD [.agg a.cells, .agg b.cells] = some ⟨.tup [.bool c1, .int .i64 c2], []⟩ := by
      have hc : inRS a ∧ inRS b ∧ lenRS 1000000 a ∧ lenRS 1000000 b := ⟨ia, ib, la, lb⟩
      simp only [SCont, SContD, rsOf_cells, if_pos hc]
      split
      · exact ⟨_, _, rfl, rfl⟩
      · rename_i he
        have he' : orE2 (chkR a) (chkR b) = 0 := by omega
        have hca : chkR a = 0 := by unfold orE2 at he'; split at he' <;> omega
        have hcb : chkR b = 0 := by unfold orE2 at he'; rw [if_pos hca] at he'; exact he'
        rw [cont_eq ia ib hca hcb]
        exact ⟨_, _, rfl, rfl⟩
    obtain ⟨p1, p2, k3, k4⟩ : ∃ c1 c2, SHasP [.agg a.cells, .agg [.int .u8 f, .int .u64 x, .int .u64 y, .int .i64 n]] = some ⟨.tup [.bool c1, .int .i64 c2], []⟩ ∧ SHasPD [.agg a.cells, .agg [.int .u8 f, .int .u64 x, .int .u64 y, .int .i64 n]] = some ⟨.tup [.bool c1, .int .i64 c2], []⟩ := by
      have hc : inRS a ∧ lenRS 1000000 a ∧ inA x y := ⟨ia, la, hA⟩
      simp only [SHasP, SHasPD, rsOf_cells, if_pos hc]
      split
      · exact ⟨_, _, rfl, rfl⟩
      · rename_i he
        have he' : orE2 (chkR a) (chkP f x y n) = 0 := by omega
        have hca : chkR a = 0 := by unfold orE2 at he'; split at he' <;> omega
        have hcb : chkP f x y n = 0 := by unfold orE2 at he'; rw [if_pos hca] at he'; exact he'
        rw [pref_eq ia hca hA hcb]
        exact ⟨_, _, rfl, rfl⟩
    obtain ⟨s1, s2, k5, k6⟩ : ∃ c1 c2, SHasA [.agg a.cells, .int .u32 s] = some ⟨.tup [.bool c1, .int .i64 c2], []⟩ ∧ SHasAD [.agg a.cells, .int .u32 s] = some ⟨.tup [.bool c1, .int .i64 c2], []⟩ := by
      have hc : inRS a ∧ lenRS 1000000 a := ⟨ia, la⟩
      have hd : inRS a ∧ lenRS 1000000 a ∧ 0 ≤ s ∧ s ≤ 4294967295 := ⟨ia, la, hs⟩
      simp only [SHasA, SHasAD, rsOf_cells, if_pos hc, if_pos hd]
      split
      · exact ⟨_, _, rfl, rfl⟩
      · rw [has_eq ia.2.2 hs.1 hs.2]
        exact ⟨_, _, rfl, rfl⟩
    have k7 : SSameR [.agg a.cells, .agg b.cells] = some ⟨.bool (sameR a b), []⟩ := by
      simp only [SSameR, rsOf_cells]; rw [if_pos ⟨la, lb⟩]
    have k8 : SSameN [.agg a.cells, .agg b.cells] = some ⟨.bool (sameR a b), []⟩ := by
      have : SSameN [.agg a.cells, .agg b.cells] = SSameD [.agg a.cells, .agg b.cells] := by
        simp [SSameN, RS.cells]
      rw [this]
      simp only [SSameD, rsOf_cells]; rw [if_pos ⟨ia, ib, la, lb⟩]
    have k9 : SEmpR [.agg a.cells] = some ⟨.bool (sameR a RS0), []⟩ := by
      simp only [SEmpR, rsOf_cells]; rw [if_pos la, emp_eq]
    have k10 : SSameN [.agg a.cells, .agg [.nils, .nils, .nils]] = some ⟨.bool (sameR a RS0), []⟩ := by
      show SSameD [.agg a.cells, .agg RS0.cells] = _
      simp only [SSameD, rsOf_cells]
      have i0 : inRS RS0 := by
        refine ⟨?_, ?_, ?_⟩ <;> intro s hs <;> cases hs
      have l0 : lenRS 1000000 RS0 := ⟨by simp [RS0], by simp [RS0], by simp [RS0]⟩
      rw [if_pos ⟨ia, i0, la, l0⟩]
    simp only [RS.cells] at *
    generalize sRows a.l4 = ra4 at *
    generalize sRows a.l6 = ra6 at *
    generalize aRows a.la = raa at *
    generalize sRows b.l4 = rb4 at *
    generalize sRows b.l6 = rb6 at *
    generalize aRows b.la = rba at *
    refine W.of_WE hT mixed M_f3 _ (by kernel_rfl) ?_
    simp [Try.f3, T, gA, gB, k1, k2, k3, k4, k5, k6, k7, k8, k9, k10]
  · refine W.of_WE hT mixed M_f3 _ (by kernel_rfl) ?_
    simp only [RS.cells] at *
    cases e1 : (grt a.l4.length || grt a.l6.length || grt a.la.length)
    · rw [e1] at gA
      cases e2 : (grt b.l4.length || grt b.l6.length || grt b.la.length)
      · exact absurd ⟨e1, e2⟩ hg
      · rw [e2] at gB
        simp [Try.f3, T, gA, gB]
    · rw [e1] at gA
      simp [Try.f3, T, gA]

end Go.Proofs.Ytnhgdkcddjbpgaa.AL
