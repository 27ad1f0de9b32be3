import Derived.Test.YtnhgdkcddjbpgaaC03mAL4
import Derived.Test.YtnhgdkcddjbpgaaC03mW9
import Derived.Test.YtnhgdkcddjbpgaaC03mW8
/- What single functions compute: a part of the proof; no conditions. -/
set_option linter.unusedVariables false
set_option linter.unusedSimpArgs false
set_option linter.unusedSectionVars false
set_option maxRecDepth 100000
namespace Go.Proofs.Ytnhgdkcddjbpgaa.AL
open Go
/-- A nil list of resources, read as one without elements. -/
def nilN (sz : Nat) : V → V
  | .nils => .rd sz []
  | x => x
def nilR : V → V
  | .agg [a, b, c] => .agg [nilN 4 a, nilN 4 b, nilN 2 c]
  | x => x
theorem nilN_R {E : Env} (sz : Nat) {x : V} {v : Value} (h : R E x v) : R E (nilN sz x) v := by
  unfold nilN
  split
  · exact R_nils_rd sz h
  · exact h
theorem nilR_R {E : Env} {x : V} {v : Value} (h : R E x v) : R E (nilR x) v := by
  unfold nilR
  split
  · rename_i a b c
    simp only [R, RL] at h ⊢
    obtain ⟨ws, rfl, w1, ws1, rfl, g1, w2, ws2, rfl, g2, w3, ws3, rfl, g3, rfl⟩ := h
    exact ⟨_, rfl, _, _, rfl, nilN_R 4 g1, _, _, rfl, nilN_R 4 g2, _, _, rfl, nilN_R 2 g3, rfl⟩
  · exact h
theorem nilR_RL {E : Env} : ∀ (xs : List V) (vs : List Value), RL E xs vs → RL E (xs.map nilR) vs
  | [], vs, h => h
  | x :: xs, vs, h => by
    simp only [RL, List.map_cons] at h ⊢
    obtain ⟨v, vs', rfl, h1, h2⟩ := h
    exact ⟨v, vs', rfl, nilR_R h1, nilR_RL xs vs' h2⟩
theorem runs_nilR {P : Program} [Gl P] {f : FuncId} {S : List V → Option Res} (h : ∀ args r, S args = some r → Runs P f args r) : ∀ args r, S (args.map nilR) = some r → Runs P f args r :=
  fun args r hr => Runs.weak (fun E vs hv => nilR_RL args vs hv) (h _ _ hr)
end Go.Proofs.Ytnhgdkcddjbpgaa.AL
namespace Go.Proofs.Ytnhgdkcddjbpgaa.AL
open Go
attribute [local simp] qf cv qbin ibin sbin qun retPost rvOk ctV ctPost marksOk retV resAll resOf V.lt ltL V.ren renL V.exp V.exp1 cleanL V.clean closedL V.closed V.cells V.one V.tree
  loadV cellsAt isNC nilQ isSlD isIfD slNew ownRows ownCells V.isOwn slStore srcO qlook mlook mget mstr zval qnone qmake mput lmap isAggD placesOf fillV putCells lstore bound seqParts V.sh shL Blk.sh newV V.ok peqs peq srcRows appOk mmV mmR hidE V.fz fzL Blk.fz fzOk and_assoc
attribute [-simp] Int.not_le Int.not_lt Nat.not_le Nat.not_lt
def SAllN (args : List V) : Option Res := SAllD (args.map nilR)
theorem runs_AllN : ∀ args r, SAllN args = some r → Runs Try.prog 45 args r := runs_nilR runs_ref03_All
def SMakeD : List V → Option Res
  | [.agg cs] => match rsOf cs with
    | some r => if inRS r ∧ lenRS 1000000 r then
        (if chkdR r ≠ 0 then some ⟨.tup [.agg [.nils, .nils, .nils], .int .i64 (chkdR r)], []⟩ else SAllD [.int .i64 0, .agg r.cells, .agg RS0.cells]) else none
    | none => none
  | _ => none
theorem chkdR_len {r : RS} (h : chkdR r = 0) : lenRS 1000 r := by
  unfold chkdR at h
  split at h
  · omega
  · rename_i h3
    exact ⟨by omega, by omega, by omega⟩
theorem inRS0 : inRS RS0 := by refine ⟨?_, ?_, ?_⟩ <;> intro s hs <;> cases hs
theorem lenRS0 (n : Nat) : lenRS n RS0 := ⟨by simp [RS0], by simp [RS0], by simp [RS0]⟩
def M_f17 : Md := fun i => some #[]
@[simp] theorem M_f17_eq {i : Nat} : M_f17 i = (some #[]) := rfl
theorem runs_ref03_Make : ∀ args r, SMakeD args = some r → Runs Try.prog 17 args r := by
  intro args r hh
  unfold SMakeD at hh
  split at hh
  · rename_i cs
    split at hh
    · rename_i q hq
      split at hh
      · rename_i hin
        obtain ⟨hin, hlen⟩ := hin
        have h1 := rsOf_eq hq
        subst h1
        have hcd := chkd_at hin hlen
        have hT : ((T0.add 44 SChkd).add 45 SAllN).ok Try.prog := Tab.add_ok (Tab.add_ok (T0_ok _) runs_ref03_Valid) runs_AllN
        refine Runs.of_body Try.func17 (by decide) rfl (by simp [Try.f17]) ?_
        by_cases hz : chkdR q = 0
        · rw [if_neg (by omega)] at hh
          rw [hz] at hcd
          have hA : SAllN [.int .i64 0, .agg q.cells, .agg [.nils, .nils, .nils]] = some r := hh
          unfold SAllD at hh
          simp only [rsOf_cells] at hh
          rw [if_pos ⟨hin, inRS0, chkdR_len hz, lenRS0 _⟩] at hh
          simp only [RS.cells] at hcd hA ⊢
          refine W.of_WE hT mixed M_f17 _ (by kernel_rfl) ?_
          split at hh
          · cases hh
            simp [Try.f17, hcd, hA]
          · cases hh
            simp [Try.f17, hcd, hA]
        · rw [if_pos hz] at hh
          cases hh
          simp only [RS.cells] at hcd ⊢
          refine W.of_WE hT mixed M_f17 _ (by kernel_rfl) ?_
          simp [Try.f17, hcd, hz]
      · cases hh
    · cases hh
  · cases hh
def SMakeDN (args : List V) : Option Res := SMakeD (args.map nilR)
theorem runs_MakeDN : ∀ args r, SMakeDN args = some r → Runs Try.prog 17 args r := runs_nilR runs_ref03_Make

end Go.Proofs.Ytnhgdkcddjbpgaa.AL
namespace Go.Proofs.Ytnhgdkcddjbpgaa.AL
open Go
attribute [local simp] qf cv qbin ibin sbin qun retPost rvOk ctV ctPost marksOk retV resAll resOf V.lt ltL V.ren renL V.exp V.exp1 cleanL V.clean closedL V.closed V.cells V.one V.tree
  loadV cellsAt isNC nilQ isSlD isIfD slNew ownRows ownCells V.isOwn slStore srcO qlook mlook mget mstr zval qnone qmake mput lmap isAggD placesOf fillV putCells lstore bound seqParts V.sh shL Blk.sh newV V.ok peqs peq srcRows appOk mmV mmR hidE V.fz fzL Blk.fz fzOk and_assoc
attribute [-simp] Int.not_le Int.not_lt Nat.not_le Nat.not_lt
theorem u32r {n : Int} (h : (Lit.int .u32 n).wf = true) : 0 ≤ n ∧ n ≤ 4294967295 := by
  simp only [Lit.wf, Bool.and_eq_true, decide_eq_true_eq] at h
  have e1 : IntKind.u32.min = 0 := rfl
  have e2 : IntKind.u32.max = 4294967295 := rfl
  omega
theorem sp_of_shape {r : List V} (h : LSh [.int .u64, .int .u64, .int .u64, .int .u64] r) : ∃ a : SP, r = a.row ∧ inSP a := by
  simp only [LSh, VSh] at h
  obtain ⟨_, _, rfl, ⟨x, rfl, hx⟩, _, _, rfl, ⟨y, rfl, hy⟩, _, _, rfl, ⟨n, rfl, hn⟩, _, _, rfl, ⟨m, rfl, hm⟩, rfl⟩ := h
  refine ⟨⟨x, y, n, m⟩, rfl, ?_⟩
  have := u64_rng hx
  have := u64_rng hy
  have := u64_rng hn
  have := u64_rng hm
  unfold inSP
  simp only
  omega
theorem sps_of_shape : ∀ {rows : List (List V)}, (∀ r ∈ rows, LSh [.int .u64, .int .u64, .int .u64, .int .u64] r) → ∃ l : List SP, rows = sRows l ∧ ∀ a ∈ l, inSP a
  | [], _ => ⟨[], rfl, by simp⟩
  | r :: rows, h => by
    obtain ⟨a, rfl, ha⟩ := sp_of_shape (h r (by simp))
    obtain ⟨l, rfl, hl⟩ := sps_of_shape (rows := rows) (fun q hq => h q (by simp [hq]))
    exact ⟨a :: l, rfl, by simpa using ⟨ha, hl⟩⟩
theorem as_of_shape {r : List V} (h : LSh [.int .u32, .int .u32] r) : ∃ a : AS, r = a.row ∧ inAS a := by
  simp only [LSh, VSh] at h
  obtain ⟨_, _, rfl, ⟨x, rfl, hx⟩, _, _, rfl, ⟨y, rfl, hy⟩, rfl⟩ := h
  refine ⟨⟨x, y⟩, rfl, ?_⟩
  have := u32r hx
  have := u32r hy
  unfold inAS
  simp only
  omega
theorem ass_of_shape : ∀ {rows : List (List V)}, (∀ r ∈ rows, LSh [.int .u32, .int .u32] r) → ∃ l : List AS, rows = aRows l ∧ ∀ a ∈ l, inAS a
  | [], _ => ⟨[], rfl, by simp⟩
  | r :: rows, h => by
    obtain ⟨a, rfl, ha⟩ := as_of_shape (h r (by simp))
    obtain ⟨l, rfl, hl⟩ := ass_of_shape (rows := rows) (fun q hq => h q (by simp [hq]))
    exact ⟨a :: l, rfl, by simpa using ⟨ha, hl⟩⟩
theorem rs_of_shape {vs : List V} (h : LSh [.sl [.int .u64, .int .u64, .int .u64, .int .u64], .sl [.int .u64, .int .u64, .int .u64, .int .u64], .sl [.int .u32, .int .u32]] vs) : ∃ r : RS, vs = r.cells ∧ inRS r := by
  simp only [LSh, VSh, shLen] at h
  obtain ⟨_, _, rfl, ⟨r1, rfl, _, h1⟩, _, _, rfl, ⟨r2, rfl, _, h2⟩, _, _, rfl, ⟨r3, rfl, _, h3⟩, rfl⟩ := h
  obtain ⟨l1, rfl, g1⟩ := sps_of_shape (rows := r1) (fun r hr => by simpa only [LSh, VSh] using h1 r hr)
  obtain ⟨l2, rfl, g2⟩ := sps_of_shape (rows := r2) (fun r hr => by simpa only [LSh, VSh] using h2 r hr)
  obtain ⟨l3, rfl, g3⟩ := ass_of_shape (rows := r3) (fun r hr => by simpa only [LSh, VSh] using h3 r hr)
  exact ⟨⟨l1, l2, l3⟩, rfl, g1, g2, g3⟩
def SSameN : List V → Option Res
  | [.agg ca, .agg [.nils, .nils, .nils]] => SSameD [.agg ca, .agg RS0.cells]
  | x => SSameD x
theorem runs_sameN : ∀ args r, SSameN args = some r → Runs Try.prog 13 args r := by
  intro args r hh
  unfold SSameN at hh
  split at hh
  · rename_i ca
    refine Runs.weak (args' := [.agg ca, .agg RS0.cells]) ?_ (runs_ref03_Same _ _ hh)
    intro E vs h
    simp only [RL, R, RS0, RS.cells, sRows, aRows, List.map_nil] at h ⊢
    obtain ⟨v, vs', rfl, g0, w, vs2, rfl, ⟨ws, rfl, w1, ws1, rfl, g1, w2, ws2, rfl, g2, w3, ws3, rfl, g3, rfl⟩, rfl⟩ := h
    exact ⟨_, _, rfl, g0, _, _, rfl, ⟨_, rfl, w1, _, rfl, by subst g1; exact ⟨none, 0, rfl, Nat.le_refl _, Nat.zero_le _, by simp⟩, w2, _, rfl, by subst g2; exact ⟨none, 0, rfl, Nat.le_refl _, Nat.zero_le _, by simp⟩, w3, _, rfl, by subst g3; exact ⟨none, 0, rfl, Nat.le_refl _, Nat.zero_le _, by simp⟩, rfl⟩, rfl⟩
  · exact runs_ref03_Same _ _ hh
theorem grt_len {n : Nat} (h : grt n = false) : n ≤ 400 := by
  unfold grt at h
  simp at h
  omega
def M_f3 : Md := fun i => if i = 9 then some #[0, 0, 3, 7, 15, 15, 63, 127, 255, 511, 511, 2047, 4095, 8191, 16383, 16383, 65535, 131071, 262143, 524287, 524287, 2097151, 4194303, 8388607, 16777215, 16777215, 67108863, 134217727, 268435455, 536870911, 536870911, 2147483647, 536870911, 536870911, 17179869183, 34359738367, 68719476735, 137438953471, 274877906943, 549755813887, 274877906943, 274877906943, 4398046511103, 8796093022207, 17592186044415, 35184372088831] else some #[]
@[simp] theorem M_f3_eq {i : Nat} : M_f3 i = (if i = 9 then some #[0, 0, 3, 7, 15, 15, 63, 127, 255, 511, 511, 2047, 4095, 8191, 16383, 16383, 65535, 131071, 262143, 524287, 524287, 2097151, 4194303, 8388607, 16777215, 16777215, 67108863, 134217727, 268435455, 536870911, 536870911, 2147483647, 536870911, 536870911, 17179869183, 34359738367, 68719476735, 137438953471, 274877906943, 549755813887, 274877906943, 274877906943, 4398046511103, 8796093022207, 17592186044415, 35184372088831] else some #[]) := rfl
theorem resourceAsks_runs : ∀ As, ArgsV Try.prog Try.f3.params.toList [[.sl [.int .u64, .int .u64, .int .u64, .int .u64], .sl [.int .u64, .int .u64, .int .u64, .int .u64], .sl [.int .u32, .int .u32]], [.sl [.int .u64, .int .u64, .int .u64, .int .u64], .sl [.int .u64, .int .u64, .int .u64, .int .u64], .sl [.int .u32, .int .u32]], [.int .u8, .int .u64, .int .u64, .int .i64], [.int .u32]] As → Runs Try.prog 3 As ⟨.bool true, []⟩ := by
  intro As h
  obtain ⟨a, ia, b, ib, f, x, y, n, s, rfl, hA, hs⟩ : ∃ a : RS, inRS a ∧ ∃ b : RS, inRS b ∧ ∃ f x y n s, As = [.agg a.cells, .agg b.cells, .agg [.int .u8 f, .int .u64 x, .int .u64 y, .int .i64 n], .int .u32 s] ∧ inA x y ∧ 0 ≤ s ∧ s ≤ 4294967295 := by
    simp only [Try.f3, ArgsV] at h
    obtain ⟨_, _, V1, _, e1, rfl, h1, _, _, V2, _, e2, rfl, h2, _, _, V3, _, e3, rfl, h3, _, _, V4, _, e4, rfl, h4, rfl, rfl⟩ := h
    simp only [List.cons.injEq] at e1
    obtain ⟨rfl, rfl⟩ := e1
    simp only [List.cons.injEq] at e2
    obtain ⟨rfl, rfl⟩ := e2
    simp only [List.cons.injEq] at e3
    obtain ⟨rfl, rfl⟩ := e3
    simp only [List.cons.injEq] at e4
    obtain ⟨rfl, _⟩ := e4
    obtain ⟨a, rfl, ia⟩ := rs_of_shape h1
    obtain ⟨b, rfl, ib⟩ := rs_of_shape h2
    simp only [LSh, VSh, shLen] at h3 h4
    obtain ⟨_, _, rfl, ⟨f, rfl, hf⟩, _, _, rfl, ⟨x, rfl, hx⟩, _, _, rfl, ⟨y, rfl, hy⟩, _, _, rfl, ⟨n, rfl, hn⟩, rfl⟩ := h3
    obtain ⟨_, _, rfl, ⟨ww, rfl, hww⟩, rfl⟩ := h4
    exact ⟨a, ia, b, ib, f, x, y, n, ww, by simp [argV], ⟨(u64_rng hx).1, (u64_rng hx).2, (u64_rng hy).1, (u64_rng hy).2⟩, (u32r hww).1, (u32r hww).2⟩
  let T := (((((((((T0.add 5 SGr3).add 6 SCont).add 7 SContD).add 8 SHasP).add 9 SHasPD).add 10 SHasA).add 11 SHasAD).add 12 SSameR).add 13 SSameN).add 14 SEmpR
  have hT : T.ok Try.prog := Tab.add_ok (Tab.add_ok (Tab.add_ok (Tab.add_ok (Tab.add_ok (Tab.add_ok (Tab.add_ok (Tab.add_ok (Tab.add_ok (Tab.add_ok (T0_ok _) runs_ref03_Great) runs_resource_Contains) runs_ref03_Contains) runs_resource_HasPrefix) runs_ref03_HasPrefix) runs_resource_HasAs) runs_ref03_HasAs) runs_resource_Same) runs_sameN) runs_resource_Empty
  have gA : SGr3 [.agg a.cells] = some ⟨.bool (grt a.l4.length || grt a.l6.length || grt a.la.length), []⟩ := by
    simp [SGr3, RS.cells]
  have gB : SGr3 [.agg b.cells] = some ⟨.bool (grt b.l4.length || grt b.l6.length || grt b.la.length), []⟩ := by
    simp [SGr3, RS.cells]
  refine Runs.of_body Try.func3 (by decide) rfl (by simp [Try.f3]) ?_
  by_cases hg : (grt a.l4.length || grt a.l6.length || grt a.la.length) = false ∧ (grt b.l4.length || grt b.l6.length || grt b.la.length) = false
  · obtain ⟨g1, g2⟩ := hg
    rw [g1] at gA
    rw [g2] at gB
    simp only [Bool.or_eq_false_iff] at g1 g2
    have la : lenRS 1000000 a := ⟨by have := grt_len g1.1.1; omega, by have := grt_len g1.1.2; omega, by have := grt_len g1.2; omega⟩
    have lb : lenRS 1000000 b := ⟨by have := grt_len g2.1.1; omega, by have := grt_len g2.1.2; omega, by have := grt_len g2.2; omega⟩
    obtain ⟨c1, c2, k1, k2⟩ : ∃ c1 c2, SCont [.agg a.cells, .agg b.cells] = some ⟨.tup [.bool c1, .int .i64 c2], []⟩ ∧ SContD [.agg a.cells, .agg b.cells] = some ⟨.tup [.bool c1, .int .i64 c2], []⟩ := by
      have hc : inRS a ∧ inRS b ∧ lenRS 1000000 a ∧ lenRS 1000000 b := ⟨ia, ib, la, lb⟩
      simp only [SCont, SContD, rsOf_cells, if_pos hc]
      split
      · exact ⟨_, _, rfl, rfl⟩
      · rename_i he
        have he' : orE2 (chkR a) (chkR b) = 0 := by omega
        have hca : chkR a = 0 := by unfold orE2 at he'; split at he' <;> omega
        have hcb : chkR b = 0 := by unfold orE2 at he'; rw [if_pos hca] at he'; exact he'
        rw [cont_eq ia ib hca hcb]
        exact ⟨_, _, rfl, rfl⟩
    obtain ⟨p1, p2, k3, k4⟩ : ∃ c1 c2, SHasP [.agg a.cells, .agg [.int .u8 f, .int .u64 x, .int .u64 y, .int .i64 n]] = some ⟨.tup [.bool c1, .int .i64 c2], []⟩ ∧ SHasPD [.agg a.cells, .agg [.int .u8 f, .int .u64 x, .int .u64 y, .int .i64 n]] = some ⟨.tup [.bool c1, .int .i64 c2], []⟩ := by
      have hc : inRS a ∧ lenRS 1000000 a ∧ inA x y := ⟨ia, la, hA⟩
      simp only [SHasP, SHasPD, rsOf_cells, if_pos hc]
      split
      · exact ⟨_, _, rfl, rfl⟩
      · rename_i he
        have he' : orE2 (chkR a) (chkP f x y n) = 0 := by omega
        have hca : chkR a = 0 := by unfold orE2 at he'; split at he' <;> omega
        have hcb : chkP f x y n = 0 := by unfold orE2 at he'; rw [if_pos hca] at he'; exact he'
        rw [pref_eq ia hca hA hcb]
        exact ⟨_, _, rfl, rfl⟩
    obtain ⟨s1, s2, k5, k6⟩ : ∃ c1 c2, SHasA [.agg a.cells, .int .u32 s] = some ⟨.tup [.bool c1, .int .i64 c2], []⟩ ∧ SHasAD [.agg a.cells, .int .u32 s] = some ⟨.tup [.bool c1, .int .i64 c2], []⟩ := by
      have hc : inRS a ∧ lenRS 1000000 a := ⟨ia, la⟩
      have hd : inRS a ∧ lenRS 1000000 a ∧ 0 ≤ s ∧ s ≤ 4294967295 := ⟨ia, la, hs⟩
      simp only [SHasA, SHasAD, rsOf_cells, if_pos hc, if_pos hd]
      split
      · exact ⟨_, _, rfl, rfl⟩
      · rw [has_eq ia.2.2 hs.1 hs.2]
        exact ⟨_, _, rfl, rfl⟩
    have k7 : SSameR [.agg a.cells, .agg b.cells] = some ⟨.bool (sameR a b), []⟩ := by
      simp only [SSameR, rsOf_cells]; rw [if_pos ⟨la, lb⟩]
    have k8 : SSameN [.agg a.cells, .agg b.cells] = some ⟨.bool (sameR a b), []⟩ := by
      have : SSameN [.agg a.cells, .agg b.cells] = SSameD [.agg a.cells, .agg b.cells] := by
        simp [SSameN, RS.cells]
      rw [this]
      simp only [SSameD, rsOf_cells]; rw [if_pos ⟨ia, ib, la, lb⟩]
    have k9 : SEmpR [.agg a.cells] = some ⟨.bool (sameR a RS0), []⟩ := by
      simp only [SEmpR, rsOf_cells]; rw [if_pos la, emp_eq]
    have k10 : SSameN [.agg a.cells, .agg [.nils, .nils, .nils]] = some ⟨.bool (sameR a RS0), []⟩ := by
      show SSameD [.agg a.cells, .agg RS0.cells] = _
      simp only [SSameD, rsOf_cells]
      have i0 : inRS RS0 := by
        refine ⟨?_, ?_, ?_⟩ <;> intro s hs <;> cases hs
      have l0 : lenRS 1000000 RS0 := ⟨by simp [RS0], by simp [RS0], by simp [RS0]⟩
      rw [if_pos ⟨ia, i0, la, l0⟩]
    simp only [RS.cells] at *
    generalize sRows a.l4 = ra4 at *
    generalize sRows a.l6 = ra6 at *
    generalize aRows a.la = raa at *
    generalize sRows b.l4 = rb4 at *
    generalize sRows b.l6 = rb6 at *
    generalize aRows b.la = rba at *
    refine W.of_WE hT mixed M_f3 _ (by kernel_rfl) ?_
    simp [Try.f3, T, gA, gB, k1, k2, k3, k4, k5, k6, k7, k8, k9, k10]
  · refine W.of_WE hT mixed M_f3 _ (by kernel_rfl) ?_
    simp only [RS.cells] at *
    cases e1 : (grt a.l4.length || grt a.l6.length || grt a.la.length)
    · rw [e1] at gA
      cases e2 : (grt b.l4.length || grt b.l6.length || grt b.la.length)
      · exact absurd ⟨e1, e2⟩ hg
      · rw [e2] at gB
        simp [Try.f3, T, gA, gB]
    · rw [e1] at gA
      simp [Try.f3, T, gA]

end Go.Proofs.Ytnhgdkcddjbpgaa.AL
namespace Go.Proofs.Ytnhgdkcddjbpgaa.AL
open Go
attribute [local simp] qf cv qbin ibin sbin qun retPost rvOk ctV ctPost marksOk retV resAll resOf V.lt ltL V.ren renL V.exp V.exp1 cleanL V.clean closedL V.closed V.cells V.one V.tree
  loadV cellsAt isNC nilQ isSlD isIfD slNew ownRows ownCells V.isOwn slStore srcO qlook mlook mget mstr zval qnone qmake mput lmap isAggD placesOf fillV putCells lstore bound seqParts V.sh shL Blk.sh newV V.ok peqs peq srcRows appOk mmV mmR hidE V.fz fzL Blk.fz fzOk and_assoc
attribute [-simp] Int.not_le Int.not_lt Nat.not_le Nat.not_lt
def SInt : List V → Option Res
  | [.rd 4 ra, .rd 4 rb] => match spsOf ra, spsOf rb with
    | some a, some b => if a.length ≤ 1000 ∧ b.length ≤ 1000 then some ⟨.own 0, [.sl 4 55 (sRows (interS a b))]⟩ else none
    | _, _ => none
  | _ => none
/-- Where the walk through two lists stands. -/
structure IW (a b : List SP) where
  p : List SP
  q : List SP
  o : List SP
  eq : o ++ interS p q = interS a b
  len : o.length + p.length + q.length ≤ 2000
def M_f52 : Md := fun i => if i = 3 then some #[0, 1, 3, 7, 0, 16, 48, 112, 255, 0, 1023] else if i = 4 then some #[0, 1, 3, 7, 0, 16, 63, 127] else if i = 6 then some #[0, 1, 3, 7, 0, 16, 63, 127] else if i = 10 then some #[0, 1, 3, 7, 0, 16, 48, 112, 255, 511] else some #[]
@[simp] theorem M_f52_eq {i : Nat} : M_f52 i = (if i = 3 then some #[0, 1, 3, 7, 0, 16, 48, 112, 255, 0, 1023] else if i = 4 then some #[0, 1, 3, 7, 0, 16, 63, 127] else if i = 6 then some #[0, 1, 3, 7, 0, 16, 63, 127] else if i = 10 then some #[0, 1, 3, 7, 0, 16, 48, 112, 255, 511] else some #[]) := rfl
theorem runs_resource_inter : ∀ args r, SInt args = some r → Runs Try.prog 52 args r := by
  intro args r hh
  unfold SInt at hh
  split at hh
  · rename_i ra rb
    split at hh
    · rename_i a b ha hb
      split at hh
      · rename_i hlen
        cases hh
        have h1 := parse_eq spOf_eq ha
        have h2 := parse_eq spOf_eq hb
        subst h1 h2
        change Runs _ _ [.rd 4 (sRows a), .rd 4 (sRows b)] _
        have hT : (T0.add 55 SCompare).ok Try.prog := Tab.add_ok (T0_ok _) runs_number_Compare
        refine Runs.of_body Try.func52 (by decide) rfl (by simp [Try.f52]) ?_
        refine W.seqE hT mixed M_f52 (by kernel_rfl) ?_
        simp [Try.f52]
        refine W.seqE hT mixed M_f52 (by kernel_rfl) ?_
        simp
        refine W.wk (Wk.adopt 5 4 55 (by omega) (by simp)) ?_
        refine W.cut True [(5, .own 0)] [.sl 4 55 (sRows (interS a b))] 75 ?_ ?_
        · refine W.block (W.fam (ι := IW a b) (fun i => [(0, .rd 4 (sRows i.p)), (1, .rd 4 (sRows i.q)), (5, .own 0)]) (fun i => [.sl 4 55 (sRows i.o)]) 75 (fun i => i.p.length + i.q.length) ⟨a, b, [], rfl, by simp; omega⟩ ?_ ?_)
          · simp [sRows]
          · rintro ⟨p, q, o, heq, hl⟩
            match p, q, heq, hl with
            | [], q, heq, hl =>
              rw [interS_nl, List.append_nil] at heq
              refine W.of_WE hT mixed M_f52 _ (by kernel_rfl) ?_
              simp [heq]
            | x :: p, [], heq, hl =>
              rw [interS_nr, List.append_nil] at heq
              refine W.of_WE hT mixed M_f52 _ (by kernel_rfl) ?_
              simp [heq]
            | x :: p, y :: q, heq, hl =>
              rw [interS_cons, ← List.append_assoc] at heq
              have cp : sRows (x :: p) = [.int .u64 x.h, .int .u64 x.l, .int .u64 x.h', .int .u64 x.l'] :: sRows p := rfl
              have cq : sRows (y :: q) = [.int .u64 y.h, .int .u64 y.l, .int .u64 y.h', .int .u64 y.l'] :: sRows q := rfl
              simp only [List.length_cons] at hl
              have ho : (sRows o).length ≤ 2000 := by rw [sRows_len]; omega
              obtain ⟨C, hC⟩ : ∃ C, C = clipS x y := ⟨_, rfl⟩
              refine W.seqE hT mixed M_f52 (by kernel_rfl) ?_
              simp [cp, cq]
              refine W.block ?_
              refine W.cut True [(0, .rd 4 (sRows (x :: p))), (1, .rd 4 (sRows (y :: q))), (5, .own 0), (6, .ptr 1 0)] [.sl 4 55 (sRows o), .box 55 [.int .u64 x.h, .int .u64 x.l, .int .u64 x.h', .int .u64 x.l']] 75 ?_ ?_
              · refine W.of_WE hT mixed M_f52 _ (by kernel_rfl) ?_
                simp [cp, cq]
              intro _
              refine W.cut True [(0, .rd 4 (sRows (x :: p))), (1, .rd 4 (sRows (y :: q))), (5, .own 0), (6, .ptr 1 0)] [.sl 4 55 (sRows o), .box 55 [.int .u64 C.h, .int .u64 C.l, .int .u64 x.h', .int .u64 x.l']] 75 ?_ ?_
              · refine W.of_WE hT mixed M_f52 _ (by kernel_rfl) ?_
                by_cases c1 : 0 < cmpA y.h y.l x.h x.l
                · have e1 : C.h = y.h := by rw [hC]; simp only [clipS, if_pos c1]
                  have e2 : C.l = y.l := by rw [hC]; simp only [clipS, if_pos c1]
                  simp [cp, cq, SCompare, c1, e1, e2]
                · have e1 : C.h = x.h := by rw [hC]; simp only [clipS, if_neg c1]
                  have e2 : C.l = x.l := by rw [hC]; simp only [clipS, if_neg c1]
                  simp [cp, cq, SCompare, c1, e1, e2]
              intro _
              refine W.cut True [(0, .rd 4 (sRows (x :: p))), (1, .rd 4 (sRows (y :: q))), (5, .own 0), (6, .ptr 1 0)] [.sl 4 55 (sRows o), .box 55 [.int .u64 C.h, .int .u64 C.l, .int .u64 C.h', .int .u64 C.l']] 75 ?_ ?_
              · refine W.of_WE hT mixed M_f52 _ (by kernel_rfl) ?_
                by_cases c1 : cmpA y.h' y.l' x.h' x.l' < 0
                · have e1 : C.h' = y.h' := by rw [hC]; simp only [clipS, if_pos c1]
                  have e2 : C.l' = y.l' := by rw [hC]; simp only [clipS, if_pos c1]
                  simp [cp, cq, SCompare, c1, e1, e2]
                · have e1 : C.h' = x.h' := by rw [hC]; simp only [clipS, if_neg c1]
                  have e2 : C.l' = x.l' := by rw [hC]; simp only [clipS, if_neg c1]
                  simp [cp, cq, SCompare, c1, e1, e2]
              intro _
              have hone : (oneC x y).length ≤ 1 := by unfold oneC; split <;> simp
              refine W.cut True [(0, .rd 4 (sRows (x :: p))), (1, .rd 4 (sRows (y :: q))), (5, .own 0)] [.sl 4 55 (sRows (o ++ oneC x y))] 75 ?_ ?_
              · refine W.of_WE hT mixed M_f52 _ (by kernel_rfl) ?_
                by_cases c1 : cmpA C.h C.l C.h' C.l' ≤ 0
                · have e1 : sRows (o ++ oneC x y) = sRows o ++ [[.int .u64 C.h, .int .u64 C.l, .int .u64 C.h', .int .u64 C.l']] := by
                    unfold oneC isC
                    rw [← hC, decide_eq_true c1, if_pos rfl]
                    unfold sRows
                    rw [List.map_append]
                    rfl
                  rw [e1]
                  generalize sRows o = R at *
                  simp [cp, cq, SCompare, c1]
                  omega
                · have e1 : oneC x y = [] := by
                    unfold oneC isC
                    rw [← hC, decide_eq_false c1]
                    rfl
                  simp [cp, cq, SCompare, c1, e1]
              intro _
              refine W.of_WE hT mixed M_f52 _ (by kernel_rfl) ?_
              by_cases c1 : cmpA x.h' x.l' y.h' y.l' < 0
              · have hf : fstC x y = true := by unfold fstC; exact decide_eq_true c1
                rw [if_pos hf] at heq
                simp [cp, cq, SCompare, c1]
                have tk : List.take p.length (sRows p) = sRows p := List.take_of_length_le (by rw [sRows_len]; omega)
                exact ⟨by omega, ⟨p, y :: q, o ++ oneC x y, heq, by simp only [List.length_append, List.length_cons]; omega⟩, by simp, tk, cq.symm, rfl⟩
              · have hf : ¬ fstC x y = true := by unfold fstC; simpa using c1
                rw [if_neg hf] at heq
                simp [cp, cq, SCompare, c1]
                have tk : List.take q.length (sRows q) = sRows q := List.take_of_length_le (by rw [sRows_len]; omega)
                exact ⟨by omega, ⟨x :: p, q, o ++ oneC x y, heq, by simp only [List.length_append, List.length_cons]; omega⟩, by simp, cp.symm, tk, rfl⟩
        intro _
        refine W.of_WE hT mixed M_f52 _ (by kernel_rfl) ?_
        simp [Try.f52]
      · cases hh
    · cases hh
  · cases hh

end Go.Proofs.Ytnhgdkcddjbpgaa.AL
namespace Go.Proofs.Ytnhgdkcddjbpgaa.AL
open Go
attribute [local simp] qf cv qbin ibin sbin qun retPost rvOk ctV ctPost marksOk retV resAll resOf V.lt ltL V.ren renL V.exp V.exp1 cleanL V.clean closedL V.closed V.cells V.one V.tree
  loadV cellsAt isNC nilQ isSlD isIfD slNew ownRows ownCells V.isOwn slStore srcO qlook mlook mget mstr zval qnone qmake mput lmap isAggD placesOf fillV putCells lstore bound seqParts V.sh shL Blk.sh newV V.ok peqs peq srcRows appOk mmV mmR hidE V.fz fzL Blk.fz fzOk and_assoc
attribute [-simp] Int.not_le Int.not_lt Nat.not_le Nat.not_lt
/-- slices.Grow of a nil slice: a row of the call's own, with no element. -/
theorem runs_Grow (n : Nat) (hn : n ≤ 1000) : Runs Try.prog 75 [.nils, .int .i64 n] ⟨.own 0, [.sl 4 55 []]⟩ := by
  intro E us hD hO hG hargs
  simp only [RL, R] at hargs
  obtain ⟨v1, _, rfl, rfl, v2, _, rfl, rfl, rfl⟩ := hargs
  unfold CalledX
  rw [run_enter Try.func75 (by decide) rfl]
  show Calls _ _ _ E.w _
  by_cases h0 : n = 0
  · subst h0
    refine Calls.mono (Any8.slices_Grow_room Try.growSet none 0 0 0 E.w (by omega) (by omega) (by omega) (by omega)) ?_
    rintro e w' ⟨rfl, rfl⟩
    refine ⟨⟨E.w, E.O, fun _ => .slice none 0 0, fun b => b = 0⟩, rfl, ⟨fun b hb => by subst hb; simp, by simp [R], ⟨fun b x hx => ?_, fun b b' x x' g hx hx' hg _ => by simp [blkOf] at hg⟩, Ev.refl _ _, fun g _ => Iff.rfl, hO⟩⟩
    have hb : b = 0 ∧ x = .sl 4 55 [] := by
      cases b with
      | zero => simpa [Res.hp, eq_comm] using hx
      | succ b => simp [Res.hp] at hx
    obtain ⟨rfl, rfl⟩ := hb
    exact ⟨rfl, .inr ⟨rfl, by omega, none, rfl⟩⟩
  · have hok : appOk Try.prog 55 4 0 1000 := by simp
    obtain ⟨hsz, hszc, hzl, hml, hby⟩ := hok
    obtain ⟨i, z, hi, hz, hzs⟩ := zlen_sound hzl hsz
    have hsi : i.size = 4 := by rw [hszc]; simp [Program.cellsOf, hi]
    have hbi : i.bytes = Try.prog.bytesOf 55 := by simp [Program.bytesOf, hi]
    have hbyn : (0 + n) * i.bytes ≤ 140737488355328 := by
      rw [hbi]
      exact Nat.le_trans (Nat.mul_le_mul_right _ (by omega)) hby
    have hC := Any8.slices_Grow_grow Try.growSet i z hi hz (by rw [hsi]; omega) none 0 0 n [] E.w (Nat.le_refl _) (by omega) hbyn (by omega) (by simp) (fun _ => rfl) (fun a h => by cases h)
    have hge := grownCap_ge E.w (0 + n) 0 55
    have hcm : grownCap E.w (0 + n) 0 55 ≤ maxLen := grownCap_le_maxLen E.w (0 + n) 0 55 (by unfold maxLen; omega)
    change Calls _ _ _ _ (fun e w' => e = .returned (.slice (some ⟨E.w.heap.size, 0, none⟩) 0 (grownCap E.w (0 + n) 0 55)) ∧ w' = E.w.drew.alloc (.cells (([] : List Value).toArray ++ Builtin.zeroCells z.cells (0 + n - 0) ++ Builtin.zeroCells z.cells (grownCap E.w (0 + n) 0 55 - (0 + n))) 55)) at hC
    obtain ⟨cur, hcur⟩ : ∃ cur, cur = ([] : List Value).toArray ++ Builtin.zeroCells z.cells (0 + n - 0) ++ Builtin.zeroCells z.cells (grownCap E.w (0 + n) 0 55 - (0 + n)) := ⟨_, rfl⟩
    rw [← hcur] at hC
    generalize grownCap E.w (0 + n) 0 55 = G at *
    have hcs : cur.size = G * 4 := by
      rw [hcur]
      simp only [Array.size_append, size_zeroCells, hzs]
      simp
      omega
    refine Calls.mono hC ?_
    rintro e w' ⟨rfl, rfl⟩
    refine ⟨⟨E.w.drew.alloc (.cells cur 55), fun g => E.O g ∨ g = E.w.heap.size, fun _ => .slice (some ⟨E.w.heap.size, 0, none⟩) 0 G, fun b => b = 0⟩, rfl,
      ⟨fun b hb => by subst hb; simp, by simp [R], ⟨fun b x hx => ?_, fun b b' x x' g hx hx' hg hg' => ?_⟩, ⟨rfl, rfl, rfl, by simp, fun g hg => heap_alloc_old E.w.drew _ hg, Nat.le_succ _⟩, fun g hg => ⟨fun h => h.resolve_right (by omega), .inl⟩, fun g hg => ?_⟩⟩
    · have hb : b = 0 ∧ x = .sl 4 55 [] := by
        cases b with
        | zero => simpa [Res.hp, eq_comm] using hx
        | succ b => simp [Res.hp] at hx
      obtain ⟨rfl, rfl⟩ := hb
      refine ⟨rfl, .inl ⟨[], ⟨by simp, .inr ⟨E.w.heap.size, G, cur, rfl, Nat.zero_le _, heap_alloc_new E.w.drew _, Nat.zero_le _, hcm, hcs, by simp⟩⟩, by simp [RL], by simp, by omega, by simp, fun g hg => ?_⟩⟩
      simp only [blkOf] at hg
      split at hg
      · cases hg
      · simp only [Option.some.injEq] at hg
        subst hg
        exact ⟨by omega, .inr rfl⟩
    · have hb : b = 0 := by
        cases b with
        | zero => rfl
        | succ b => simp [Res.hp] at hx
      have hb' : b' = 0 := by
        cases b' with
        | zero => rfl
        | succ b => simp [Res.hp] at hx'
      rw [hb, hb']
    · rcases hg with hg | rfl
      · have := hO g hg
        simp
        omega
      · simp

end Go.Proofs.Ytnhgdkcddjbpgaa.AL
namespace Go.Proofs.Ytnhgdkcddjbpgaa.AL
open Go
attribute [local simp] qf cv qbin ibin sbin qun retPost rvOk ctV ctPost marksOk retV resAll resOf V.lt ltL V.ren renL V.exp V.exp1 cleanL V.clean closedL V.closed V.cells V.one V.tree
  loadV cellsAt isNC nilQ isSlD isIfD slNew ownRows ownCells V.isOwn slStore srcO qlook mlook mget mstr zval qnone qmake mput lmap isAggD placesOf fillV putCells lstore bound seqParts V.sh shL Blk.sh newV V.ok peqs peq srcRows appOk mmV mmR hidE V.fz fzL Blk.fz fzOk and_assoc
attribute [-simp] Int.not_le Int.not_lt Nat.not_le Nat.not_lt
def SCat : List V → Option Res
  | [.rd 1 [[.rd 4 ra], [.rd 4 rb]]] => match spsOf ra, spsOf rb with
    | some a, some b => if a.length ≤ 500 ∧ b.length ≤ 500 then some ⟨.own 0, [.sl 4 55 (sRows (a ++ b))]⟩ else none
    | _, _ => none
  | _ => none
theorem runs_Concat_set : ∀ args r, SCat args = some r → Runs Try.prog 48 args r := by
  intro args r hh
  unfold SCat at hh
  split at hh
  · rename_i ra rb
    split at hh
    · rename_i a b ha hb
      split at hh
      · rename_i hlen
        cases hh
        have h1 := parse_eq spOf_eq ha
        have h2 := parse_eq spOf_eq hb
        subst h1 h2
        change Runs _ _ [.rd 1 [[.rd 4 (sRows a)], [.rd 4 (sRows b)]]] _
        have hG : Runs Try.prog 75 [.nils, .int .i64 ((a.length : Int) + (b.length : Int))] ⟨.own 0, [.sl 4 55 []]⟩ := by
          have := runs_Grow (a.length + b.length) (by omega)
          rwa [Int.natCast_add] at this
        have hT : (T0.add 75 (oneS [.nils, .int .i64 ((a.length : Int) + (b.length : Int))] ⟨.own 0, [.sl 4 55 []]⟩)).ok Try.prog := Tab.add_ok (T0_ok _) (oneS_ok hG)
        have w0 : IntKind.i64.wrap (a.length : Int) = a.length := wr_i64 (by omega) (by omega)
        have w1 : IntKind.i64.wrap ((a.length : Int) + (b.length : Int)) = (a.length : Int) + (b.length : Int) := wr_i64 (by omega) (by omega)
        have n0 : ¬ (a.length : Int) < 0 := by omega
        have n1 : ¬ (a.length : Int) + (b.length : Int) < 0 := by omega
        have la : (sRows a).length = a.length := sRows_len a
        have lb : (sRows b).length = b.length := sRows_len b
        have eab : sRows (a ++ b) = sRows a ++ sRows b := (sRows_app a b).symm
        rw [eab]
        generalize sRows a = RA at *
        generalize sRows b = RB at *
        refine Runs.of_body Try.func48 (by decide) rfl (by simp [Try.f48]) ?_
        refine W.seqE hT mixed M0 (by kernel_rfl) ?_
        simp [Try.f48]
        refine W.seqE hT mixed M0 (by kernel_rfl) ?_
        simp
        refine W.cut True [(0, .rd 1 [[.rd 4 RA], [.rd 4 RB]]), (3, .int .i64 ((a.length : Int) + (b.length : Int)))] [] 36 ?_ ?_
        · refine W.seqE hT mixed M0 (by kernel_rfl) ?_
          simp
          refine W.block (W.for (fun _ => True) (fun k => [(0, .rd 1 [[.rd 4 RA], [.rd 4 RB]]), (3, .int .i64 (if k = 0 then 0 else if k = 1 then (a.length : Int) else (a.length : Int) + (b.length : Int))), (9, .rd 1 [[.rd 4 RA], [.rd 4 RB]]), (10, .int .i64 2), (11, .int .i64 k)]) (fun k => []) 36 2 trivial ?_ ?_)
          · simp
          · intro k hk _
            match k, hk with
            | 0, _ =>
              refine W.of_WE hT mixed M0 _ (by kernel_rfl) ?_
              simp [la, w0, n0]
              rfl
            | 1, _ =>
              refine W.of_WE hT mixed M0 _ (by kernel_rfl) ?_
              simp [lb, w1, n1]
              rfl
            | 2, _ =>
              refine W.of_WE hT mixed M0 _ (by kernel_rfl) ?_
              simp
        intro _
        refine W.cut True [(0, .rd 1 [[.rd 4 RA], [.rd 4 RB]]), (6, .own 0)] [.sl 4 55 []] 36 ?_ ?_
        · refine W.of_WE hT mixed M0 _ (by kernel_rfl) ?_
          simp [oneS_self]
        intro _
        refine W.cut True [(6, .own 0)] [.sl 4 55 (RA ++ RB)] 36 ?_ ?_
        · refine W.seqE hT mixed M0 (by kernel_rfl) ?_
          simp
          refine W.block (W.for (fun _ => True) (fun k => [(6, .own 0), (25, .rd 1 [[.rd 4 RA], [.rd 4 RB]]), (26, .int .i64 2), (27, .int .i64 k)]) (fun k => [.sl 4 55 (if k = 0 then [] else if k = 1 then RA else RA ++ RB)]) 36 2 trivial ?_ ?_)
          · simp
          · intro k hk _
            match k, hk with
            | 0, _ =>
              refine W.of_WE hT mixed M0 _ (by kernel_rfl) ?_
              simp
              exact ⟨by omega, by omega, rfl⟩
            | 1, _ =>
              refine W.of_WE hT mixed M0 _ (by kernel_rfl) ?_
              simp
              exact ⟨by omega, by omega, rfl⟩
            | 2, _ =>
              refine W.of_WE hT mixed M0 _ (by kernel_rfl) ?_
              simp
        intro _
        refine W.of_WE hT mixed M0 _ (by kernel_rfl) ?_
        simp [Try.f48]
      · cases hh
    · cases hh
  · cases hh
theorem sR_clo (t : TypeId) (l : List SP) : (Blk.sl 4 t (sRows l)).closed := by
  intro r hr c hc
  obtain ⟨x, _, rfl⟩ := List.mem_map.1 hr
  simp only [SP.row, List.mem_cons, List.not_mem_nil, or_false] at hc
  rcases hc with rfl | rfl | rfl | rfl <;> rfl
theorem aR_clo (t : TypeId) (l : List AS) : (Blk.sl 2 t (aRows l)).closed := by
  intro r hr c hc
  obtain ⟨x, _, rfl⟩ := List.mem_map.1 hr
  simp only [AS.row, List.mem_cons, List.not_mem_nil, or_false] at hc
  rcases hc with rfl | rfl <;> rfl
def SUn1 : List V → Option Res
  | [.rd 4 ra, .rd 4 rb] => match spsOf ra, spsOf rb with
    | some a, some b => if (∀ s ∈ a, inSP s) ∧ (∀ s ∈ b, inSP s) ∧ a.length ≤ 500 ∧ b.length ≤ 500 then some ⟨.own 0, [.sl 4 55 (sRows (unionS (a ++ b)))]⟩ else none
    | _, _ => none
  | _ => none
theorem runs_Union_1 : ∀ args r, SUn1 args = some r → Runs Try.prog 47 args r := by
  intro args r hh
  unfold SUn1 at hh
  split at hh
  · rename_i ra rb
    split at hh
    · rename_i a b ha hb
      split at hh
      · rename_i hin
        obtain ⟨ia, ib, la, lb⟩ := hin
        cases hh
        have h1 := parse_eq spOf_eq ha
        have h2 := parse_eq spOf_eq hb
        subst h1 h2
        change Runs _ _ [.rd 4 (sRows a), .rd 4 (sRows b)] _
        have hS : SCat [.rd 1 [[.rd 4 (sRows a)], [.rd 4 (sRows b)]]] = some ⟨.own 0, [.sl 4 55 (sRows (a ++ b))]⟩ := by
          simp only [SCat, sRows_parse]; rw [if_pos ⟨la, lb⟩]
        have hU := uni_at (l := a ++ b) (fun s hs => (List.mem_append.1 hs).elim (ia s) (ib s)) (by simp; omega)
        have hT : ((T0.add 48 SCat).add 42 SUni).ok Try.prog := Tab.add_ok (Tab.add_ok (T0_ok _) runs_Concat_set) runs_union
        refine Runs.of_body Try.func47 (by decide) rfl (by simp [Try.f47]) ?_
        refine W.of_WE hT mixed M0 _ (by kernel_rfl) ?_
        simp [Try.f47, hS, hU]
        exact ⟨sR_clo _ _, sR_clo _ _⟩
      · cases hh
    · cases hh
  · cases hh

end Go.Proofs.Ytnhgdkcddjbpgaa.AL
namespace Go.Proofs.Ytnhgdkcddjbpgaa.AL
open Go
attribute [local simp] qf cv qbin ibin sbin qun retPost rvOk ctV ctPost marksOk retV resAll resOf V.lt ltL V.ren renL V.exp V.exp1 cleanL V.clean closedL V.closed V.cells V.one V.tree
  loadV cellsAt isNC nilQ isSlD isIfD slNew ownRows ownCells V.isOwn slStore srcO qlook mlook mget mstr zval qnone qmake mput lmap isAggD placesOf fillV putCells lstore bound seqParts V.sh shL Blk.sh newV V.ok peqs peq srcRows appOk mmV mmR hidE V.fz fzL Blk.fz fzOk and_assoc
attribute [-simp] Int.not_le Int.not_lt Nat.not_le Nat.not_lt
/-! What stands for one operation, and how long it gets. -/
theorem int_at {a b : List SP} (_ : ∀ s ∈ a, inSP s) (_ : ∀ s ∈ b, inSP s) (la : a.length ≤ 200) (lb : b.length ≤ 200) : SInt [.rd 4 (sRows a), .rd 4 (sRows b)] = some ⟨.own 0, [.sl 4 55 (sRows (interS a b))]⟩ := by
  simp only [SInt, sRows_parse]; rw [if_pos ⟨by omega, by omega⟩]
theorem mnu_at {a b : List SP} (ia : ∀ s ∈ a, inSP s) (ib : ∀ s ∈ b, inSP s) (la : a.length ≤ 200) (lb : b.length ≤ 200) : SMin [.rd 4 (sRows a), .rd 4 (sRows b)] = some ⟨.own 0, [.sl 4 55 (sRows (minS a b))]⟩ := by
  simp only [SMin, sRows_parse]; rw [if_pos ⟨ia, ib, by omega, by omega⟩]
theorem un1_at {a b : List SP} (ia : ∀ s ∈ a, inSP s) (ib : ∀ s ∈ b, inSP s) (la : a.length ≤ 200) (lb : b.length ≤ 200) : SUn1 [.rd 4 (sRows a), .rd 4 (sRows b)] = some ⟨.own 0, [.sl 4 55 (sRows (unionS (a ++ b)))]⟩ := by
  simp only [SUn1, sRows_parse]; rw [if_pos ⟨ia, ib, by omega, by omega⟩]
def unnS (a b : List SP) : List SP := unionS (a ++ b)
theorem interF_len : ∀ (n : Nat) (a b : List SP), (interF n a b).length ≤ n
  | 0, _, _ => by simp [interF]
  | n + 1, [], _ => by simp [interF]
  | n + 1, x :: a, [] => by simp [interF]
  | n + 1, x :: a, y :: b => by
    have h1 := interF_len n a (y :: b)
    have h2 := interF_len n (x :: a) b
    have h3 : (oneC x y).length ≤ 1 := by unfold oneC; split <;> simp
    simp only [interF, List.length_append]
    split <;> omega
theorem interS_len (a b : List SP) : (interS a b).length ≤ a.length + b.length := interF_len _ a b
theorem minS_len' (a b : List SP) : (minS a b).length ≤ a.length * (b.length + 1) := by
  have := minS_len (a := a) (b := b) a.length (Nat.le_refl _)
  rwa [List.take_length] at this
theorem unnS_len (a b : List SP) : (unnS a b).length ≤ a.length + b.length := by
  have := unionS_len (a ++ b)
  rw [List.length_append] at this
  exact this
theorem le_of3 {f : List SP → List SP → List SP} (h : ∀ a b, (f a b).length ≤ a.length * (b.length + 1)) (a b : List SP) (la : a.length ≤ 200) (lb : b.length ≤ 200) : (f a b).length ≤ 1000000 :=
  Nat.le_trans (h a b) (Nat.le_trans (Nat.mul_le_mul la (Nat.add_le_add_right lb 1)) (by omega))
theorem un1_at' {a b : List SP} (ia : ∀ s ∈ a, inSP s) (ib : ∀ s ∈ b, inSP s) (la : a.length ≤ 200) (lb : b.length ≤ 200) : SUn1 [.rd 4 (sRows a), .rd 4 (sRows b)] = some ⟨.own 0, [.sl 4 55 (sRows (unnS a b))]⟩ := un1_at ia ib la lb
theorem int_bd (a b : List SP) (la : a.length ≤ 200) (lb : b.length ≤ 200) : (interS a b).length ≤ 1000000 := by have := interS_len a b; omega
theorem unn_bd (a b : List SP) (la : a.length ≤ 200) (lb : b.length ≤ 200) : (unnS a b).length ≤ 1000000 := by have := unnS_len a b; omega
theorem min_bd (a b : List SP) (la : a.length ≤ 200) (lb : b.length ≤ 200) : (minS a b).length ≤ 1000000 := le_of3 minS_len' a b la lb

end Go.Proofs.Ytnhgdkcddjbpgaa.AL
namespace Go.Proofs.Ytnhgdkcddjbpgaa.AL
open Go
attribute [local simp] qf cv qbin ibin sbin qun retPost rvOk ctV ctPost marksOk retV resAll resOf V.lt ltL V.ren renL V.exp V.exp1 cleanL V.clean closedL V.closed V.cells V.one V.tree
  loadV cellsAt isNC nilQ isSlD isIfD slNew ownRows ownCells V.isOwn slStore srcO qlook mlook mget mstr zval qnone qmake mput lmap isAggD placesOf fillV putCells lstore bound seqParts V.sh shL Blk.sh newV V.ok peqs peq srcRows appOk mmV mmR hidE V.fz fzL Blk.fz fzOk and_assoc
attribute [-simp] Int.not_le Int.not_lt Nat.not_le Nat.not_lt
def SEachInt : List V → Option Res
  | [.agg ca, .agg cb, .fn 52 [] []] => match rsOf ca, rsOf cb with
    | some a, some b => if inRS a ∧ inRS b ∧ lenRS 1000000 a ∧ lenRS 1000000 b then
        (if orE2 (chkR a) (chkR b) ≠ 0 then some ⟨.tup [.agg [.nils, .nils, .nils], .int .i64 (orE2 (chkR a) (chkR b))], []⟩
          else if big3 (interS a.l4 b.l4) (interS a.l6 b.l6) (interS (a.la.map wideS) (b.la.map wideS)) = true then some ⟨.tup [.agg [.nils, .nils, .nils], .int .i64 4], []⟩
          else some ⟨.tup [.agg [.own 0, .own 1, .own 2], .int .i64 0], [.sl 4 55 (sRows (interS a.l4 b.l4)), .sl 4 55 (sRows (interS a.l6 b.l6)), .sl 2 57 (aRows ((interS (a.la.map wideS) (b.la.map wideS)).map narS))]⟩) else none
    | _, _ => none
  | _ => none
def M_f46 : Md := fun i => if i = 1 then some #[0, 1, 0, 7, 15, 31, 63] else if i = 4 then some #[0, 1, 0, 7, 0, 0, 63, 127] else if i = 8 then some #[0, 0, 0, 4, 12, 0, 32, 96, 254, 511, 1023] else some #[]
@[simp] theorem M_f46_eq {i : Nat} : M_f46 i = (if i = 1 then some #[0, 1, 0, 7, 15, 31, 63] else if i = 4 then some #[0, 1, 0, 7, 0, 0, 63, 127] else if i = 8 then some #[0, 0, 0, 4, 12, 0, 32, 96, 254, 511, 1023] else some #[]) := rfl
theorem runs_each_Int : ∀ args r, SEachInt args = some r → Runs Try.prog 46 args r := by
  intro args r hh
  unfold SEachInt at hh
  split at hh
  · rename_i ca cb
    split at hh
    · rename_i a b ha hb
      split at hh
      · rename_i hin
        obtain ⟨ia, ib, la, lb⟩ := hin
        have h1 := rsOf_eq ha
        have h2 := rsOf_eq hb
        subst h1 h2
        have ea := chkR_at ia la
        have eb := chkR_at ib lb
        have sa := sets_at ia la
        have sb := sets_at ib lb
        have hT : (((((T0.add 20 SChkR).add 27 SOr2).add 28 SSets).add 52 SInt).add 43 SMade).ok Try.prog :=
          Tab.add_ok (Tab.add_ok (Tab.add_ok (Tab.add_ok (Tab.add_ok (T0_ok _) runs_resource_Check) runs_cmp_Or_Errno) runs_resource_sets) runs_resource_inter) runs_made
        refine Runs.of_body Try.func46 (by decide) rfl (by simp [Try.f46]) ?_
        by_cases hz : orE2 (chkR a) (chkR b) = 0
        · rw [if_neg (by omega)] at hh
          have hca : chkR a = 0 := by unfold orE2 at hz; split at hz <;> omega
          have hcb : chkR b = 0 := by unfold orE2 at hz; rw [if_pos hca] at hz; exact hz
          have ka := chkR_len hca
          have kb := chkR_len hcb
          have l1 : (a.la.map wideS).length ≤ 200 := by rw [List.length_map]; exact ka.2.2
          have l2 : (b.la.map wideS).length ≤ 200 := by rw [List.length_map]; exact kb.2.2
          have wa : ∀ s ∈ a.la.map wideS, inSP s := fun s hs => by obtain ⟨t, ht, rfl⟩ := List.mem_map.1 hs; exact inSP_wide (ia.2.2 t ht)
          have wb : ∀ s ∈ b.la.map wideS, inSP s := fun s hs => by obtain ⟨t, ht, rfl⟩ := List.mem_map.1 hs; exact inSP_wide (ib.2.2 t ht)
          have u4 := int_at (a := a.l4) (b := b.l4) ia.1 ib.1 ka.1 kb.1
          have u6 := int_at (a := a.l6) (b := b.l6) ia.2.1 ib.2.1 ka.2.1 kb.2.1
          have ua := int_at wa wb l1 l2
          have m := made_at (a := interS a.l4 b.l4) (b := interS a.l6 b.l6) (c := interS (a.la.map wideS) (b.la.map wideS)) (int_bd _ _ ka.1 kb.1) (int_bd _ _ ka.2.1 kb.2.1) (int_bd _ _ l1 l2)
          rw [hca] at ea
          rw [hcb] at eb
          simp only [RS.cells] at *
          generalize interS a.l4 b.l4 = O4 at *
          generalize interS a.l6 b.l6 = O6 at *
          generalize interS (a.la.map wideS) (b.la.map wideS) = OA at *
          generalize sRows a.l4 = a4 at *
          generalize sRows a.l6 = a6 at *
          generalize aRows a.la = aa at *
          generalize sRows (a.la.map wideS) = aw at *
          generalize sRows b.l4 = b4 at *
          generalize sRows b.l6 = b6 at *
          generalize aRows b.la = ba at *
          generalize sRows (b.la.map wideS) = bw at *
          refine W.seqE hT mixed M_f46 (by kernel_rfl) ?_
          simp [Try.f46]
          refine W.cut True [(2, .fn 52 [] []), (3, .ptr 0 0), (4, .ptr 1 0), (6, .ptr 2 0)] [.box 25 [.rd 4 a4, .rd 4 a6, .rd 2 aa], .box 25 [.rd 4 b4, .rd 4 b6, .rd 2 ba], .box 25 [.nils, .nils, .nils]] 44 ?_ ?_
          · refine W.of_WE hT mixed M_f46 _ (by kernel_rfl) ?_
            simp [ea, eb, SOr2]
          intro _
          refine W.cut True [(2, .fn 52 [] []), (6, .ptr 0 0), (9, .ptr 1 0), (10, .ptr 2 0)] [.box 25 [.nils, .nils, .nils], .box 64 [.rd 4 a4, .rd 4 a6, .rd 4 aw], .box 64 [.rd 4 b4, .rd 4 b6, .rd 4 bw]] 44 ?_ ?_
          · refine W.of_WE hT mixed M_f46 _ (by kernel_rfl) ?_
            simp [sa, sb]
          intro _
          refine W.wk (Wk.freeze 2 (.box 64 [.rd 4 b4, .rd 4 b6, .rd 4 bw]) (by simp) (by simp)) ?_
          refine W.cut True [(6, .ptr 0 0), (9, .ptr 1 0)] [.box 25 [.nils, .nils, .nils], .box 64 [.rd 4 (sRows O4), .rd 4 (sRows O6), .rd 4 (sRows OA)]] 44 ?_ ?_
          · refine W.seqE hT mixed M_f46 (by kernel_rfl) ?_
            simp [Try.f46]
            refine W.block (W.for (fun _ => True) (fun k => [(2, .fn 52 [] []), (6, .ptr 0 0), (9, .ptr 1 0), (10, .rptr [.rd 4 b4, .rd 4 b6, .rd 4 bw] 0), (26, .int .i64 k)])
              (fun k => [.box 25 [.nils, .nils, .nils], .box 64 [.rd 4 (if 0 < k then sRows O4 else a4), .rd 4 (if 1 < k then sRows O6 else a6), .rd 4 (if 2 < k then sRows OA else aw)]]) 44 3 trivial ?_ ?_)
            · simp
            · intro k hk _
              match k, hk with
              | 0, _ =>
                refine W.seqE hT mixed M_f46 (by kernel_rfl) ?_
                simp
                refine W.seqE hT mixed M_f46 (by kernel_rfl) ?_
                simp
                refine W.cut True [(2, .fn 52 [] []), (6, .ptr 0 0), (9, .ptr 1 0), (10, .rptr [.rd 4 b4, .rd 4 b6, .rd 4 bw] 0), (26, .int .i64 0)] [.box 25 [.nils, .nils, .nils], .box 64 [.own 2, .rd 4 a6, .rd 4 aw], .sl 4 55 (sRows O4)] 44 ?_ ?_
                · refine W.of_WE hT mixed M_f46 _ (by kernel_rfl) ?_
                  simp [u4]
                intro _
                refine W.wk (Wk.freeze 2 (.sl 4 55 (sRows O4)) (by simp) (by simp)) ?_
                refine W.of_WE hT mixed M_f46 _ (by kernel_rfl) ?_
                simp
                rfl
              | 1, _ =>
                refine W.seqE hT mixed M_f46 (by kernel_rfl) ?_
                simp
                refine W.seqE hT mixed M_f46 (by kernel_rfl) ?_
                simp
                refine W.cut True [(2, .fn 52 [] []), (6, .ptr 0 0), (9, .ptr 1 0), (10, .rptr [.rd 4 b4, .rd 4 b6, .rd 4 bw] 0), (26, .int .i64 1)] [.box 25 [.nils, .nils, .nils], .box 64 [.rd 4 (sRows O4), .own 2, .rd 4 aw], .sl 4 55 (sRows O6)] 44 ?_ ?_
                · refine W.of_WE hT mixed M_f46 _ (by kernel_rfl) ?_
                  simp [u6]
                intro _
                refine W.wk (Wk.freeze 2 (.sl 4 55 (sRows O6)) (by simp) (by simp)) ?_
                refine W.of_WE hT mixed M_f46 _ (by kernel_rfl) ?_
                simp
                rfl
              | 2, _ =>
                refine W.seqE hT mixed M_f46 (by kernel_rfl) ?_
                simp
                refine W.seqE hT mixed M_f46 (by kernel_rfl) ?_
                simp
                refine W.cut True [(2, .fn 52 [] []), (6, .ptr 0 0), (9, .ptr 1 0), (10, .rptr [.rd 4 b4, .rd 4 b6, .rd 4 bw] 0), (26, .int .i64 2)] [.box 25 [.nils, .nils, .nils], .box 64 [.rd 4 (sRows O4), .rd 4 (sRows O6), .own 2], .sl 4 55 (sRows OA)] 44 ?_ ?_
                · refine W.of_WE hT mixed M_f46 _ (by kernel_rfl) ?_
                  simp [ua]
                intro _
                refine W.wk (Wk.freeze 2 (.sl 4 55 (sRows OA)) (by simp) (by simp)) ?_
                refine W.of_WE hT mixed M_f46 _ (by kernel_rfl) ?_
                simp
                rfl
              | 3, _ =>
                refine W.of_WE hT mixed M_f46 _ (by kernel_rfl) ?_
                simp
          intro _
          refine W.of_WE hT mixed M_f46 _ (by kernel_rfl) ?_
          cases hb : big3 O4 O6 OA
          · rw [hb] at hh m
            cases hh
            simp only [Bool.false_eq_true, if_false] at m
            simp [Try.f46, m]
            exact ⟨10, 11, by decide, 12, by decide, by decide, by simp, by simp, by simp, rfl, rfl, rfl⟩
          · rw [hb] at hh m
            cases hh
            simp only [if_true] at m
            simp [Try.f46, m]
        · rw [if_pos hz] at hh
          cases hh
          simp only [RS.cells] at *
          refine W.of_WE hT mixed M_f46 _ (by kernel_rfl) ?_
          unfold orE2 at hz
          by_cases hca : chkR a = 0
          · rw [if_pos hca] at hz
            simp [Try.f46, ea, eb, SOr2, hca, hz, orE2]
          · simp [Try.f46, ea, eb, SOr2, hca, orE2]
      · cases hh
    · cases hh
  · cases hh

end Go.Proofs.Ytnhgdkcddjbpgaa.AL
namespace Go.Proofs.Ytnhgdkcddjbpgaa.AL
open Go
attribute [local simp] qf cv qbin ibin sbin qun retPost rvOk ctV ctPost marksOk retV resAll resOf V.lt ltL V.ren renL V.exp V.exp1 cleanL V.clean closedL V.closed V.cells V.one V.tree
  loadV cellsAt isNC nilQ isSlD isIfD slNew ownRows ownCells V.isOwn slStore srcO qlook mlook mget mstr zval qnone qmake mput lmap isAggD placesOf fillV putCells lstore bound seqParts V.sh shL Blk.sh newV V.ok peqs peq srcRows appOk mmV mmR hidE V.fz fzL Blk.fz fzOk and_assoc
attribute [-simp] Int.not_le Int.not_lt Nat.not_le Nat.not_lt
def SEachMin : List V → Option Res
  | [.agg ca, .agg cb, .fn 29 [] []] => match rsOf ca, rsOf cb with
    | some a, some b => if inRS a ∧ inRS b ∧ lenRS 1000000 a ∧ lenRS 1000000 b then
        (if orE2 (chkR a) (chkR b) ≠ 0 then some ⟨.tup [.agg [.nils, .nils, .nils], .int .i64 (orE2 (chkR a) (chkR b))], []⟩
          else if big3 (minS a.l4 b.l4) (minS a.l6 b.l6) (minS (a.la.map wideS) (b.la.map wideS)) = true then some ⟨.tup [.agg [.nils, .nils, .nils], .int .i64 4], []⟩
          else some ⟨.tup [.agg [.own 0, .own 1, .own 2], .int .i64 0], [.sl 4 55 (sRows (minS a.l4 b.l4)), .sl 4 55 (sRows (minS a.l6 b.l6)), .sl 2 57 (aRows ((minS (a.la.map wideS) (b.la.map wideS)).map narS))]⟩) else none
    | _, _ => none
  | _ => none
theorem runs_each_Min : ∀ args r, SEachMin args = some r → Runs Try.prog 46 args r := by
  intro args r hh
  unfold SEachMin at hh
  split at hh
  · rename_i ca cb
    split at hh
    · rename_i a b ha hb
      split at hh
      · rename_i hin
        obtain ⟨ia, ib, la, lb⟩ := hin
        have h1 := rsOf_eq ha
        have h2 := rsOf_eq hb
        subst h1 h2
        have ea := chkR_at ia la
        have eb := chkR_at ib lb
        have sa := sets_at ia la
        have sb := sets_at ib lb
        have hT : (((((T0.add 20 SChkR).add 27 SOr2).add 28 SSets).add 29 SMin).add 43 SMade).ok Try.prog :=
          Tab.add_ok (Tab.add_ok (Tab.add_ok (Tab.add_ok (Tab.add_ok (T0_ok _) runs_resource_Check) runs_cmp_Or_Errno) runs_resource_sets) runs_minus) runs_made
        refine Runs.of_body Try.func46 (by decide) rfl (by simp [Try.f46]) ?_
        by_cases hz : orE2 (chkR a) (chkR b) = 0
        · rw [if_neg (by omega)] at hh
          have hca : chkR a = 0 := by unfold orE2 at hz; split at hz <;> omega
          have hcb : chkR b = 0 := by unfold orE2 at hz; rw [if_pos hca] at hz; exact hz
          have ka := chkR_len hca
          have kb := chkR_len hcb
          have l1 : (a.la.map wideS).length ≤ 200 := by rw [List.length_map]; exact ka.2.2
          have l2 : (b.la.map wideS).length ≤ 200 := by rw [List.length_map]; exact kb.2.2
          have wa : ∀ s ∈ a.la.map wideS, inSP s := fun s hs => by obtain ⟨t, ht, rfl⟩ := List.mem_map.1 hs; exact inSP_wide (ia.2.2 t ht)
          have wb : ∀ s ∈ b.la.map wideS, inSP s := fun s hs => by obtain ⟨t, ht, rfl⟩ := List.mem_map.1 hs; exact inSP_wide (ib.2.2 t ht)
          have u4 := mnu_at (a := a.l4) (b := b.l4) ia.1 ib.1 ka.1 kb.1
          have u6 := mnu_at (a := a.l6) (b := b.l6) ia.2.1 ib.2.1 ka.2.1 kb.2.1
          have ua := mnu_at wa wb l1 l2
          have m := made_at (a := minS a.l4 b.l4) (b := minS a.l6 b.l6) (c := minS (a.la.map wideS) (b.la.map wideS)) (min_bd _ _ ka.1 kb.1) (min_bd _ _ ka.2.1 kb.2.1) (min_bd _ _ l1 l2)
          rw [hca] at ea
          rw [hcb] at eb
          simp only [RS.cells] at *
          generalize minS a.l4 b.l4 = O4 at *
          generalize minS a.l6 b.l6 = O6 at *
          generalize minS (a.la.map wideS) (b.la.map wideS) = OA at *
          generalize sRows a.l4 = a4 at *
          generalize sRows a.l6 = a6 at *
          generalize aRows a.la = aa at *
          generalize sRows (a.la.map wideS) = aw at *
          generalize sRows b.l4 = b4 at *
          generalize sRows b.l6 = b6 at *
          generalize aRows b.la = ba at *
          generalize sRows (b.la.map wideS) = bw at *
          refine W.seqE hT mixed M_f46 (by kernel_rfl) ?_
          simp [Try.f46]
          refine W.cut True [(2, .fn 29 [] []), (3, .ptr 0 0), (4, .ptr 1 0), (6, .ptr 2 0)] [.box 25 [.rd 4 a4, .rd 4 a6, .rd 2 aa], .box 25 [.rd 4 b4, .rd 4 b6, .rd 2 ba], .box 25 [.nils, .nils, .nils]] 44 ?_ ?_
          · refine W.of_WE hT mixed M_f46 _ (by kernel_rfl) ?_
            simp [ea, eb, SOr2]
          intro _
          refine W.cut True [(2, .fn 29 [] []), (6, .ptr 0 0), (9, .ptr 1 0), (10, .ptr 2 0)] [.box 25 [.nils, .nils, .nils], .box 64 [.rd 4 a4, .rd 4 a6, .rd 4 aw], .box 64 [.rd 4 b4, .rd 4 b6, .rd 4 bw]] 44 ?_ ?_
          · refine W.of_WE hT mixed M_f46 _ (by kernel_rfl) ?_
            simp [sa, sb]
          intro _
          refine W.wk (Wk.freeze 2 (.box 64 [.rd 4 b4, .rd 4 b6, .rd 4 bw]) (by simp) (by simp)) ?_
          refine W.cut True [(6, .ptr 0 0), (9, .ptr 1 0)] [.box 25 [.nils, .nils, .nils], .box 64 [.rd 4 (sRows O4), .rd 4 (sRows O6), .rd 4 (sRows OA)]] 44 ?_ ?_
          · refine W.seqE hT mixed M_f46 (by kernel_rfl) ?_
            simp [Try.f46]
            refine W.block (W.for (fun _ => True) (fun k => [(2, .fn 29 [] []), (6, .ptr 0 0), (9, .ptr 1 0), (10, .rptr [.rd 4 b4, .rd 4 b6, .rd 4 bw] 0), (26, .int .i64 k)])
              (fun k => [.box 25 [.nils, .nils, .nils], .box 64 [.rd 4 (if 0 < k then sRows O4 else a4), .rd 4 (if 1 < k then sRows O6 else a6), .rd 4 (if 2 < k then sRows OA else aw)]]) 44 3 trivial ?_ ?_)
            · simp
            · intro k hk _
              match k, hk with
              | 0, _ =>
                refine W.seqE hT mixed M_f46 (by kernel_rfl) ?_
                simp
                refine W.seqE hT mixed M_f46 (by kernel_rfl) ?_
                simp
                refine W.cut True [(2, .fn 29 [] []), (6, .ptr 0 0), (9, .ptr 1 0), (10, .rptr [.rd 4 b4, .rd 4 b6, .rd 4 bw] 0), (26, .int .i64 0)] [.box 25 [.nils, .nils, .nils], .box 64 [.own 2, .rd 4 a6, .rd 4 aw], .sl 4 55 (sRows O4)] 44 ?_ ?_
                · refine W.of_WE hT mixed M_f46 _ (by kernel_rfl) ?_
                  simp [u4]
                intro _
                refine W.wk (Wk.freeze 2 (.sl 4 55 (sRows O4)) (by simp) (by simp)) ?_
                refine W.of_WE hT mixed M_f46 _ (by kernel_rfl) ?_
                simp
                rfl
              | 1, _ =>
                refine W.seqE hT mixed M_f46 (by kernel_rfl) ?_
                simp
                refine W.seqE hT mixed M_f46 (by kernel_rfl) ?_
                simp
                refine W.cut True [(2, .fn 29 [] []), (6, .ptr 0 0), (9, .ptr 1 0), (10, .rptr [.rd 4 b4, .rd 4 b6, .rd 4 bw] 0), (26, .int .i64 1)] [.box 25 [.nils, .nils, .nils], .box 64 [.rd 4 (sRows O4), .own 2, .rd 4 aw], .sl 4 55 (sRows O6)] 44 ?_ ?_
                · refine W.of_WE hT mixed M_f46 _ (by kernel_rfl) ?_
                  simp [u6]
                intro _
                refine W.wk (Wk.freeze 2 (.sl 4 55 (sRows O6)) (by simp) (by simp)) ?_
                refine W.of_WE hT mixed M_f46 _ (by kernel_rfl) ?_
                simp
                rfl
              | 2, _ =>
                refine W.seqE hT mixed M_f46 (by kernel_rfl) ?_
                simp
                refine W.seqE hT mixed M_f46 (by kernel_rfl) ?_
                simp
                refine W.cut True [(2, .fn 29 [] []), (6, .ptr 0 0), (9, .ptr 1 0), (10, .rptr [.rd 4 b4, .rd 4 b6, .rd 4 bw] 0), (26, .int .i64 2)] [.box 25 [.nils, .nils, .nils], .box 64 [.rd 4 (sRows O4), .rd 4 (sRows O6), .own 2], .sl 4 55 (sRows OA)] 44 ?_ ?_
                · refine W.of_WE hT mixed M_f46 _ (by kernel_rfl) ?_
                  simp [ua]
                intro _
                refine W.wk (Wk.freeze 2 (.sl 4 55 (sRows OA)) (by simp) (by simp)) ?_
                refine W.of_WE hT mixed M_f46 _ (by kernel_rfl) ?_
                simp
                rfl
              | 3, _ =>
                refine W.of_WE hT mixed M_f46 _ (by kernel_rfl) ?_
                simp
          intro _
          refine W.of_WE hT mixed M_f46 _ (by kernel_rfl) ?_
          cases hb : big3 O4 O6 OA
          · rw [hb] at hh m
            cases hh
            simp only [Bool.false_eq_true, if_false] at m
            simp [Try.f46, m]
            exact ⟨10, 11, by decide, 12, by decide, by decide, by simp, by simp, by simp, rfl, rfl, rfl⟩
          · rw [hb] at hh m
            cases hh
            simp only [if_true] at m
            simp [Try.f46, m]
        · rw [if_pos hz] at hh
          cases hh
          simp only [RS.cells] at *
          refine W.of_WE hT mixed M_f46 _ (by kernel_rfl) ?_
          unfold orE2 at hz
          by_cases hca : chkR a = 0
          · rw [if_pos hca] at hz
            simp [Try.f46, ea, eb, SOr2, hca, hz, orE2]
          · simp [Try.f46, ea, eb, SOr2, hca, orE2]
      · cases hh
    · cases hh
  · cases hh

end Go.Proofs.Ytnhgdkcddjbpgaa.AL
