import Derived.Test.YthfbddnpakhjiaaC14cW9
/- What single functions compute: a part of the proof; no conditions. -/
set_option linter.unusedVariables false
set_option linter.unusedSimpArgs false
set_option maxRecDepth 100000
namespace Go.Proofs.Ythfbddnpakhjiaa.AL
open Go
attribute [local simp] qf cv qbin ibin sbin qun retPost rvOk ctV ctPost marksOk retV resAll resOf V.lt ltL V.ren renL V.exp V.exp1 cleanL V.clean closedL V.closed V.cells V.one V.tree
  loadV cellsAt isNC nilQ isSlD isIfD slNew ownRows ownCells V.isOwn slStore srcO qlook mlook mget mstr zval qnone qmake mput lmap isAggD placesOf fillV putCells lstore bound seqParts V.sh shL Blk.sh newV V.ok peqs peq srcRows appOk mmV mmR hidE V.fz fzL Blk.fz fzOk and_assoc
attribute [-simp] Int.not_le Int.not_lt Nat.not_le Nat.not_lt
def SAllN (args : List V) : Option Res := SAllD (args.map nilR)
theorem runs_AllN : ∀ args r, SAllN args = some r → Runs Try.prog 96 args r := runs_nilR runs_ref03_All
def SMakeD : List V → Option Res
  | [.agg cs] => match rsOf cs with
    | some r => if inRS r ∧ lenRS 1000000 r then
        (if chkdR r ≠ 0 then some ⟨.tup [.agg [.nils, .nils, .nils], .int .i64 (chkdR r)], []⟩ else SAllD [.int .i64 0, .agg r.cells, .agg RS0.cells]) else none
    | none => none
  | _ => none
theorem chkdR_len {r : RS} (h : chkdR r = 0) : lenRS 1000 r := by
  unfold chkdR at h
  split at h
  · omega
  · rename_i h3
    exact ⟨by omega, by omega, by omega⟩
theorem inRS0 : inRS RS0 := by refine ⟨?_, ?_, ?_⟩ <;> intro s hs <;> cases hs
theorem lenRS0 (n : Nat) : lenRS n RS0 := ⟨by simp [RS0], by simp [RS0], by simp [RS0]⟩
def M_f67 : Md := fun i => some #[]
@[simp] theorem M_f67_eq {i : Nat} : M_f67 i = (some #[]) := rfl
theorem runs_ref03_Make : ∀ args r, SMakeD args = some r → Runs Try.prog 67 args r := by
  intro args r hh
  unfold SMakeD at hh
  split at hh
  · rename_i cs
    split at hh
    · rename_i q hq
      split at hh
      · rename_i hin
        obtain ⟨hin, hlen⟩ := hin
        have h1 := rsOf_eq hq
        subst h1
        have hcd := chkd_at hin hlen
        have hT : ((T0.add 95 SChkd).add 96 SAllN).ok Try.prog := Tab.add_ok (Tab.add_ok (T0_ok _) runs_ref03_Valid) runs_AllN
        refine Runs.of_body Try.func67 (by decide) rfl (by simp [Try.f67]) ?_
        by_cases hz : chkdR q = 0
        · rw [if_neg (by omega)] at hh
          rw [hz] at hcd
          have hA : SAllN [.int .i64 0, .agg q.cells, .agg [.nils, .nils, .nils]] = some r := hh
          unfold SAllD at hh
          simp only [rsOf_cells] at hh
          rw [if_pos ⟨hin, inRS0, chkdR_len hz, lenRS0 _⟩] at hh
          simp only [RS.cells] at hcd hA ⊢
          refine W.of_WE hT mixed M_f67 _ (by kernel_rfl) ?_
          split at hh
          · cases hh
            simp [Try.f67, hcd, hA]
          · cases hh
            simp [Try.f67, hcd, hA]
        · rw [if_pos hz] at hh
          cases hh
          simp only [RS.cells] at hcd ⊢
          refine W.of_WE hT mixed M_f67 _ (by kernel_rfl) ?_
          simp [Try.f67, hcd, hz]
      · cases hh
    · cases hh
  · cases hh
def SMakeDN (args : List V) : Option Res := SMakeD (args.map nilR)
theorem runs_MakeDN : ∀ args r, SMakeDN args = some r → Runs Try.prog 67 args r := runs_nilR runs_ref03_Make
def SNeeD : List V → Option Res
  | [.agg [.int .u32 w, .rd 5 rows]] => match apsOf rows with
    | some l => if (∀ a ∈ l, inAP a) ∧ l.length ≤ 1000 then (if chkRoa l ≠ 0 then some ⟨.tup [.agg [.nils, .nils, .nils], .int .i64 (chkRoa l)], []⟩ else SMakeD [.agg (RSn l).cells]) else none
    | none => none
  | _ => none
def M_f26 : Md := fun i => some #[]
@[simp] theorem M_f26_eq {i : Nat} : M_f26 i = (some #[]) := rfl
theorem runs_ref14_Needs : ∀ args r, SNeeD args = some r → Runs Try.prog 26 args r := by
  intro args r hh
  unfold SNeeD at hh
  split at hh
  · rename_i w rows
    split at hh
    · rename_i l hl
      split at hh
      · rename_i hin
        have h1 := apsOf_eq hl
        subst h1
        have hc := roa_at (w := w) hin
        have hlen := hin.2
        have hT : (((T0.add 28 SRoa).add 66 SOf).add 67 SMakeDN).ok Try.prog := Tab.add_ok (Tab.add_ok (Tab.add_ok (T0_ok _) runs_ref14_Check) runs_ref02_Of) runs_MakeDN
        refine Runs.of_body Try.func26 (by decide) rfl (by simp [Try.f26]) ?_
        by_cases hz : chkRoa l = 0
        · rw [if_neg (by omega)] at hh
          have hok := chkRoa_ok hz
          rw [hz] at hc
          refine W.seqE hT mixed M_f26 (by kernel_rfl) ?_
          simp [Try.f26]
          refine W.seqE hT mixed M_f26 (by kernel_rfl) ?_
          simp [hc]
          refine W.cut True [(1, .ptr 0 0), (2, .ptr 1 0)] [.box 25 [.int .u32 w, .rd 5 (l.map AP.row)], .box 64 [.nils, .nils, .nils]] 56 ?_ ?_
          · refine W.of_WE hT mixed M_f26 _ (by kernel_rfl) ?_
            simp
          intro _
          refine W.cut True [(1, .ptr 0 0), (2, .ptr 1 0), (5, .ptr 2 0)] [.box 25 [.int .u32 w, .rd 5 (l.map AP.row)], .box 64 [.nils, .nils, .nils], .box 64 [.nils, .nils, .nils]] 56 ?_ ?_
          · refine W.of_WE hT mixed M_f26 _ (by kernel_rfl) ?_
            simp
          intro _
          refine W.wk (Wk.freeze 0 (.box 25 [.int .u32 w, .rd 5 (l.map AP.row)]) (by simp) (by simp)) ?_
          refine W.wk (Wk.adoptB 2 0 4 79 (bt := 64) (cells := [.nils, .nils, .nils]) (by omega) (by simp) rfl) ?_
          refine W.wk (Wk.adoptB 2 1 4 79 (bt := 64) (cells := [.own 3, .nils, .nils]) (by omega) (by simp) rfl) ?_
          refine W.cut True [(2, .ptr 0 0), (5, .ptr 1 0)] [.box 64 [.nils, .nils, .nils], .box 64 [.own 2, .own 3, .nils], .sl 4 79 (sRows (selF 4 l)), .sl 4 79 (sRows (selF 6 l))] 56 ?_ ?_
          · refine W.seqE hT mixed M_f26 (by kernel_rfl) ?_
            simp
            refine W.block (W.for (fun _ => True) (fun k => [(1, .rptr [.int .u32 w, .rd 5 (l.map AP.row)] 0), (2, .ptr 0 0), (5, .ptr 1 0), (6, .int .i64 k)])
              (fun k => [.box 64 [.nils, .nils, .nils], .box 64 [.own 2, .own 3, .nils], .sl 4 79 (sRows (selF 4 (l.take k))), .sl 4 79 (sRows (selF 6 (l.take k)))]) 56 l.length trivial ?_ ?_)
            · simp [selF, sRows]
            · intro k hk _
              refine W.of_WE hT mixed M_f26 _ (by kernel_rfl) ?_
              by_cases hlt : k < l.length
              · have hw1 : IntKind.i64.wrap ((k : Int) + 1) = k + 1 := wr_i64 (by omega) (by omega)
                have ia := hin.1 l[k] (List.getElem_mem hlt)
                obtain ⟨ca, hf⟩ := hok.2.2 l[k] (List.getElem_mem hlt)
                have hof : SOf [.agg [.int .u8 l[k].f, .int .u64 l[k].h, .int .u64 l[k].l, .int .i64 l[k].n]] = some ⟨.tup [.agg [.int .u64 (spA l[k]).h, .int .u64 (spA l[k]).l, .int .u64 (spA l[k]).h', .int .u64 (spA l[k]).l'], .int .i64 0], []⟩ := by
                  simp only [SOf]; rw [if_pos ⟨ia.2.2.1, ia.2.2.2.1, ia.2.2.2.2.1, ia.2.2.2.2.2.1⟩, if_pos ca]; rfl
                have s4 := selF_snoc (f := 4) hlt
                have s6 := selF_snoc (f := 6) hlt
                have l4 : (sRows (selF 4 (l.take k))).length ≤ 1000000 := by
                  rw [sRows_len]; have := selF_len 4 (l.take k); simp at this; omega
                have l6 : (sRows (selF 6 (l.take k))).length ≤ 1000000 := by
                  rw [sRows_len]; have := selF_len 6 (l.take k); simp at this; omega
                rcases hf with hf | hf
                · rw [if_pos hf] at s4
                  rw [if_neg (by omega)] at s6
                  have hsr : sRows (selF 4 (l.take (k + 1))) = sRows (selF 4 (l.take k)) ++ [[.int .u64 (spA l[k]).h, .int .u64 (spA l[k]).l, .int .u64 (spA l[k]).h', .int .u64 (spA l[k]).l']] := by
                    rw [s4]; simp [sRows, SP.row]
                  generalize sRows (selF 4 (l.take k)) = R4 at *
                  rw [s6]
                  generalize sRows (selF 6 (l.take k)) = R6 at *
                  rw [hf] at hof
                  simp [hlt, hw1, AP.row, hof, hf]
                  rw [hsr]
                  exact ⟨by omega, by omega, rfl⟩
                · rw [if_neg (by omega)] at s4
                  rw [if_pos hf] at s6
                  have hsr : sRows (selF 6 (l.take (k + 1))) = sRows (selF 6 (l.take k)) ++ [[.int .u64 (spA l[k]).h, .int .u64 (spA l[k]).l, .int .u64 (spA l[k]).h', .int .u64 (spA l[k]).l']] := by
                    rw [s6]; simp [sRows, SP.row]
                  generalize sRows (selF 6 (l.take k)) = R6 at *
                  rw [s4]
                  generalize sRows (selF 4 (l.take k)) = R4 at *
                  rw [hf] at hof
                  simp [hlt, hw1, AP.row, hof, hf]
                  rw [hsr]
                  exact ⟨by omega, by omega, rfl⟩
              · have : k = l.length := by omega
                subst this
                simp
          intro _
          refine W.wk (Wk.freeze 2 (.sl 4 79 (sRows (selF 4 l))) (by simp) (by simp)) ?_
          refine W.wk (Wk.freeze 3 (.sl 4 79 (sRows (selF 6 l))) (by simp) (by simp)) ?_
          have hM : SMakeDN [.agg [.rd 4 (sRows (selF 4 l)), .rd 4 (sRows (selF 6 l)), .nils]] = some r := hh
          unfold SMakeD RSn at hh
          simp only [rsOf_cells] at hh
          generalize sRows (selF 4 l) = R4 at *
          generalize sRows (selF 6 l) = R6 at *
          unfold SAllD at hh
          simp only [rsOf_cells] at hh
          refine W.of_WE hT mixed M_f26 _ (by kernel_rfl) ?_
          split at hh
          · split at hh
            · cases hh
              simp [Try.f26, hM]
            · split at hh
              · split at hh
                · cases hh
                  simp [Try.f26, hM]
                · cases hh
                  simp [Try.f26, hM]
              · cases hh
          · cases hh
        · rw [if_pos hz] at hh
          cases hh
          refine W.of_WE hT mixed M_f26 _ (by kernel_rfl) ?_
          simp [Try.f26, hc, hz]
      · cases hh
    · cases hh
  · cases hh

end Go.Proofs.Ythfbddnpakhjiaa.AL
namespace Go.Proofs.Ythfbddnpakhjiaa.AL
open Go
attribute [local simp] qf cv qbin ibin sbin qun retPost rvOk ctV ctPost marksOk retV resAll resOf V.lt ltL V.ren renL V.exp V.exp1 cleanL V.clean closedL V.closed V.cells V.one V.tree
  loadV cellsAt isNC nilQ isSlD isIfD slNew ownRows ownCells V.isOwn slStore srcO qlook mlook mget mstr zval qnone qmake mput lmap isAggD placesOf fillV putCells lstore bound seqParts V.sh shL Blk.sh newV V.ok peqs peq srcRows appOk mmV mmR hidE V.fz fzL Blk.fz fzOk and_assoc
attribute [-simp] Int.not_le Int.not_lt Nat.not_le Nat.not_lt
theorem ap_of_shape {r : List V} (h : LSh [.int .u8, .int .u64, .int .u64, .int .i64, .int .i64] r) : ∃ a : AP, r = a.row ∧ inAP a := by
  simp only [LSh, VSh] at h
  obtain ⟨_, _, rfl, ⟨f, rfl, hf⟩, _, _, rfl, ⟨x, rfl, hx⟩, _, _, rfl, ⟨y, rfl, hy⟩, _, _, rfl, ⟨n, rfl, hn⟩, _, _, rfl, ⟨m, rfl, hm⟩, rfl⟩ := h
  refine ⟨⟨f, x, y, n, m⟩, rfl, ?_⟩
  have := u8_rng hf
  have := u64_rng hx
  have := u64_rng hy
  have := i64_rng hn
  have := i64_rng hm
  unfold inAP
  simp only
  omega
theorem aps_of_shape : ∀ {rows : List (List V)}, (∀ r ∈ rows, LSh [.int .u8, .int .u64, .int .u64, .int .i64, .int .i64] r) → ∃ l : List AP, rows = l.map AP.row ∧ ∀ a ∈ l, inAP a
  | [], _ => ⟨[], rfl, by simp⟩
  | r :: rows, h => by
    obtain ⟨a, rfl, ha⟩ := ap_of_shape (h r (by simp))
    obtain ⟨l, rfl, hl⟩ := aps_of_shape (rows := rows) (fun q hq => h q (by simp [hq]))
    exact ⟨a :: l, rfl, by simpa using ⟨ha, hl⟩⟩
theorem vf_good {f : Int} {l : List SP} (hin : ∀ s ∈ l, inSP s) (hg : goodL f l = true) : ∀ s ∈ l, Vf f s := by
  intro s hs
  unfold goodL at hg
  rw [Bool.not_eq_true', List.any_eq_false] at hg
  have := hg s hs
  unfold badS at this
  simp only [decide_eq_true_eq, ne_eq, Decidable.not_not] at this
  exact vf_of this (hin s hs)
theorem union_nil {f : Int} (hf : f = 4 ∨ f = 6) {a : List SP} (ha : ∀ s ∈ a, Vf f s) : doneL 0 f a [] = unionS a := by
  have := union_done hf (a := a) (b := []) ha (fun s hs => by cases hs)
  rw [List.append_nil] at this
  exact this.symm
/-- What the two answers of Needs come to. -/
theorem needs_eq {w : Int} {l : List AP} (h : (∀ a ∈ l, inAP a) ∧ l.length ≤ 1000) :
    (∃ c, SNeeR [.agg [.int .u32 w, .rd 5 (l.map AP.row)]] = some ⟨.tup [.agg [.nils, .nils, .nils], .int .i64 c], []⟩ ∧ SNeeD [.agg [.int .u32 w, .rd 5 (l.map AP.row)]] = some ⟨.tup [.agg [.nils, .nils, .nils], .int .i64 c], []⟩) ∨
    ∃ a b, (∀ s ∈ a, inSP s) ∧ (∀ s ∈ b, inSP s) ∧ a.length ≤ 200 ∧ b.length ≤ 200 ∧
      SNeeR [.agg [.int .u32 w, .rd 5 (l.map AP.row)]] = some ⟨.tup [.agg [.own 0, .own 1, .own 2], .int .i64 0], [.sl 4 79 (sRows a), .sl 4 79 (sRows b), .sl 2 181 []]⟩ ∧
      SNeeD [.agg [.int .u32 w, .rd 5 (l.map AP.row)]] = some ⟨.tup [.agg [.rd 4 (sRows a), .rd 4 (sRows b), .rd 2 []], .int .i64 0], []⟩ := by
  have gR : SNeeR [.agg [.int .u32 w, .rd 5 (l.map AP.row)]] = if chkRoa l ≠ 0 then some ⟨.tup [.agg [.nils, .nils, .nils], .int .i64 (chkRoa l)], []⟩ else SMakeR [.agg (RSn l).cells] := by
    simp only [SNeeR, apsOf_map]; rw [if_pos h]
  have gD : SNeeD [.agg [.int .u32 w, .rd 5 (l.map AP.row)]] = if chkRoa l ≠ 0 then some ⟨.tup [.agg [.nils, .nils, .nils], .int .i64 (chkRoa l)], []⟩ else SMakeD [.agg (RSn l).cells] := by
    simp only [SNeeD, apsOf_map]; rw [if_pos h]
  rw [gR, gD]
  by_cases hz : chkRoa l = 0
  · have nz : ¬ chkRoa l ≠ 0 := by omega
    simp only [if_neg nz]
    have hin : inRS (RSn l) := ⟨selF_in h.1, selF_in h.1, fun s hs => by cases hs⟩
    have hlen : lenRS 1000000 (RSn l) := ⟨by have := selF_len 4 l; have := h.2; simp only [RSn]; omega, by have := selF_len 6 l; have := h.2; simp only [RSn]; omega, by simp [RSn]⟩
    have mR : SMakeR [.agg (RSn l).cells] = if chkdR (RSn l) ≠ 0 then some ⟨.tup [.agg [.nils, .nils, .nils], .int .i64 (chkdR (RSn l))], []⟩
          else if big3 (unionS (selF 4 l)) (unionS (selF 6 l)) (unionS []) = true then some ⟨.tup [.agg [.nils, .nils, .nils], .int .i64 4], []⟩
          else some ⟨.tup [.agg [.own 0, .own 1, .own 2], .int .i64 0], [.sl 4 79 (sRows (unionS (selF 4 l))), .sl 4 79 (sRows (unionS (selF 6 l))), .sl 2 181 (aRows ((unionS []).map narS))]⟩ := by
      simp only [SMakeR, rsOf_cells]; rw [if_pos ⟨hin, hlen⟩]; rfl
    have mD : SMakeD [.agg (RSn l).cells] = if chkdR (RSn l) ≠ 0 then some ⟨.tup [.agg [.nils, .nils, .nils], .int .i64 (chkdR (RSn l))], []⟩ else SAllD [.int .i64 0, .agg (RSn l).cells, .agg RS0.cells] := by
      simp only [SMakeD, rsOf_cells]; rw [if_pos ⟨hin, hlen⟩]
    rw [mR, mD]
    by_cases hc : chkdR (RSn l) = 0
    · have nc : ¬ chkdR (RSn l) ≠ 0 := by omega
      simp only [if_neg nc]
      have hg : goodL 4 (selF 4 l) = true ∧ goodL 6 (selF 6 l) = true := by
        unfold chkdR at hc
        split at hc
        · omega
        · split at hc
          · rename_i hg; exact ⟨hg.1, hg.2.1⟩
          · omega
      have e4 : D4 0 (RSn l) RS0 = unionS (selF 4 l) := union_nil (.inl rfl) (vf_good hin.1 hg.1)
      have e6 : D6 0 (RSn l) RS0 = unionS (selF 6 l) := union_nil (.inr rfl) (vf_good hin.2.1 hg.2)
      have eA : DA 0 (RSn l) RS0 = unionS [] := union_nil (f := 4) (.inl rfl) (fun s hs => by cases hs)
      have hu : unionS [] = [] := by simp [unionS, sortS]
      have mA : SAllD [.int .i64 0, .agg (RSn l).cells, .agg RS0.cells] = if big3 (unionS (selF 4 l)) (unionS (selF 6 l)) (unionS []) = true then some ⟨.tup [.agg [.nils, .nils, .nils], .int .i64 4], []⟩
          else some ⟨.tup [.agg [.rd 4 (sRows (unionS (selF 4 l))), .rd 4 (sRows (unionS (selF 6 l))), .rd 2 (aRows ((unionS []).map narS))], .int .i64 0], []⟩ := by
        simp only [SAllD, rsOf_cells]
        rw [if_pos ⟨hin, inRS0, chkdR_len hc, lenRS0 _⟩, e4, e6, eA]
      rw [mA]
      by_cases hb : big3 (unionS (selF 4 l)) (unionS (selF 6 l)) (unionS []) = true
      · simp only [if_pos hb]
        exact .inl ⟨4, rfl, rfl⟩
      · simp only [if_neg hb]
        right
        unfold big3 at hb
        simp only [Bool.or_eq_true, decide_eq_true_eq, not_or] at hb
        exact ⟨unionS (selF 4 l), unionS (selF 6 l), unionS_in (selF_in h.1), unionS_in (selF_in h.1), by omega, by omega, by rw [hu]; rfl, by rw [hu]; rfl⟩
    · simp only [if_pos (show chkdR (RSn l) ≠ 0 from hc)]
      exact .inl ⟨_, rfl, rfl⟩
  · simp only [if_pos (show chkRoa l ≠ 0 from hz)]
    exact .inl ⟨_, rfl, rfl⟩

end Go.Proofs.Ythfbddnpakhjiaa.AL
namespace Go.Proofs.Ythfbddnpakhjiaa.AL
open Go
attribute [local simp] qf cv qbin ibin sbin qun retPost rvOk ctV ctPost marksOk retV resAll resOf V.lt ltL V.ren renL V.exp V.exp1 cleanL V.clean closedL V.closed V.cells V.one V.tree
  loadV cellsAt isNC nilQ isSlD isIfD slNew ownRows ownCells V.isOwn slStore srcO qlook mlook mget mstr zval qnone qmake mput lmap isAggD placesOf fillV putCells lstore bound seqParts V.sh shL Blk.sh newV V.ok peqs peq srcRows appOk mmV mmR hidE V.fz fzL Blk.fz fzOk and_assoc
attribute [-simp] Int.not_le Int.not_lt Nat.not_le Nat.not_lt
def SGreat : List V → Option Res
  | [.agg [.int .u32 w, .rd 5 rows]] => some ⟨.bool (decide (130 < rows.length)), []⟩
  | _ => none
theorem runs_ref14_Great : ∀ args r, SGreat args = some r → Runs Try.prog 10 args r := by
  intro args r hh
  unfold SGreat at hh
  split at hh
  · cases hh
    refine Runs.of_body Try.func10 (by decide) rfl (by simp [Try.f10]) ?_
    refine W.of_WE (T0_ok _) mixed M0 _ (by kernel_rfl) ?_
    simp +contextual [Try.f10]
    omega
  · cases hh
def SSameNN (args : List V) : Option Res := SSameD (args.map nilR)
theorem runs_sameNN : ∀ args r, SSameNN args = some r → Runs Try.prog 30 args r := runs_nilR runs_ref03_Same
theorem runs_sameO_nil : Runs Try.prog 31 [.nils, .nils] ⟨.bool true, []⟩ :=
  Runs.weak (args' := [.rd 6 (oRows 0 []), .rd 6 (oRows 0 [])]) (fun E vs h => by
    simp only [RL] at h ⊢
    obtain ⟨v, _, rfl, h1, u, _, rfl, h2, h3⟩ := h
    exact ⟨_, _, rfl, R_nils_rd 6 h1, _, _, rfl, R_nils_rd 6 h2, h3⟩) (runs_ref14_SameOrigins 0 [] (by simp))
def M_f8 : Md := fun i => if i = 8 then some #[0, 1, 0, 7, 15, 31, 63, 63, 255, 63, 63, 2047, 4095, 8191, 16383, 32767, 32767, 131071, 262143, 524287, 1048575, 1048575, 4194303, 8388607, 16777215, 33554431, 33554431, 134217727, 268435455, 536870911, 1073741823, 1073741823, 4294967295, 8589934591, 17179869183, 34359738367, 34359738367, 137438953471, 274877906943, 549755813887, 1099511627775, 1099511627775, 4398046511103, 8796093022207, 17592186044415] else some #[]
@[simp] theorem M_f8_eq {i : Nat} : M_f8 i = (if i = 8 then some #[0, 1, 0, 7, 15, 31, 63, 63, 255, 63, 63, 2047, 4095, 8191, 16383, 32767, 32767, 131071, 262143, 524287, 1048575, 1048575, 4194303, 8388607, 16777215, 33554431, 33554431, 134217727, 268435455, 536870911, 1073741823, 1073741823, 4294967295, 8589934591, 17179869183, 34359738367, 34359738367, 137438953471, 274877906943, 549755813887, 1099511627775, 1099511627775, 4398046511103, 8796093022207, 17592186044415] else some #[]) := rfl
theorem roaChecks_runs : ∀ As, ArgsV Try.prog Try.f8.params.toList [[.int .u32, .sl [.int .u8, .int .u64, .int .u64, .int .i64, .int .i64]], [.int .u32, .sl [.int .u8, .int .u64, .int .u64, .int .i64, .int .i64]]] As → Runs Try.prog 8 As ⟨.bool true, []⟩ := by
  intro As h
  obtain ⟨la, ia, lb, ib, w, x, rfl⟩ : ∃ la : List AP, (∀ a ∈ la, inAP a) ∧ ∃ lb : List AP, (∀ a ∈ lb, inAP a) ∧ ∃ w x, As = [.agg [.int .u32 w, .rd 5 (la.map AP.row)], .agg [.int .u32 x, .rd 5 (lb.map AP.row)]] := by
    simp only [Try.f8, ArgsV] at h
    obtain ⟨_, _, V1, _, e1, rfl, h1, _, _, V2, _, e2, rfl, h2, rfl, rfl⟩ := h
    simp only [List.cons.injEq] at e1
    obtain ⟨rfl, rfl⟩ := e1
    simp only [List.cons.injEq] at e2
    obtain ⟨rfl, _⟩ := e2
    simp only [LSh, VSh, shLen] at h1 h2
    obtain ⟨_, _, rfl, ⟨w, rfl, hw⟩, _, _, rfl, ⟨rows, rfl, hlen, hrows⟩, rfl⟩ := h1
    obtain ⟨_, _, rfl, ⟨x, rfl, hx⟩, _, _, rfl, ⟨rows2, rfl, hlen2, hrows2⟩, rfl⟩ := h2
    obtain ⟨la, rfl, ia⟩ := aps_of_shape (rows := rows) (fun r hr => by simpa only [LSh, VSh] using hrows r hr)
    obtain ⟨lb, rfl, ib⟩ := aps_of_shape (rows := rows2) (fun r hr => by simpa only [LSh, VSh] using hrows2 r hr)
    exact ⟨la, ia, lb, ib, w, x, by simp [argV]⟩
  have gA : SGreat [.agg [.int .u32 w, .rd 5 (la.map AP.row)]] = some ⟨.bool (decide (130 < la.length)), []⟩ := by simp [SGreat]
  have gB : SGreat [.agg [.int .u32 x, .rd 5 (lb.map AP.row)]] = some ⟨.bool (decide (130 < lb.length)), []⟩ := by simp [SGreat]
  by_cases hg : la.length ≤ 130 ∧ lb.length ≤ 130
  · obtain ⟨hla, hlb⟩ := hg
    rw [decide_eq_false (by omega)] at gA gB
    have hin : (∀ a ∈ la, inAP a) ∧ la.length ≤ 1000 := ⟨ia, by omega⟩
    have kt : STwA [.agg [.int .u32 w, .rd 5 (la.map AP.row)]] = some ⟨.agg [.int .u32 w, .own 0], [.sl 5 76 (la.map AP.row)]⟩ := by
      simp only [STwA, apsOf_map]; rw [if_pos (by omega)]
    have kc := roa_at (w := w) hin
    have ks : SSamA [.agg [.int .u32 w, .rd 5 (la.map AP.row)], .agg [.int .u32 x, .rd 5 (lb.map AP.row)]] = some ⟨.bool (decide (w = x) && decide (la = lb)), []⟩ := by
      simp only [SSamA, apsOf_map]; rw [if_pos ⟨by omega, by omega⟩]
    have ksa : SSamA [.agg [.int .u32 w, .rd 5 (la.map AP.row)], .agg [.int .u32 w, .rd 5 (la.map AP.row)]] = some ⟨.bool true, []⟩ := by
      simp only [SSamA, apsOf_map]; rw [if_pos ⟨by omega, by omega⟩]; simp
    have gen : ∀ (O : V) (hO : Runs Try.prog 31 [O, O] ⟨.bool true, []⟩), ((((((((((((T0.add 10 SGreat).add 24 STwA).add 25 SNeeR).add 26 SNeeD).add 21 SOrg).add 27 SOrg).add 20 SRoa).add 28 SRoa).add 29 SSamA).add 18 SSamA).add 30 SSameNN).add 31 (oneS [O, O] ⟨.bool true, []⟩)).ok Try.prog :=
      fun O hO => Tab.add_ok (Tab.add_ok (Tab.add_ok (Tab.add_ok (Tab.add_ok (Tab.add_ok (Tab.add_ok (Tab.add_ok (Tab.add_ok (Tab.add_ok (Tab.add_ok (Tab.add_ok (T0_ok _) runs_ref14_Great) runs_ref14_Twin) runs_roa_Needs) runs_ref14_Needs) runs_roa_Origins) runs_ref14_Origins) runs_roa_Check) runs_ref14_Check) runs_roa_Same) runs_ref14_Same) runs_sameNN) (oneS_ok hO)
    have ko0 : SOrg [.agg [.int .u32 w, .rd 5 (la.map AP.row)]] = if chkRoa la ≠ 0 then some ⟨.tup [.nils, .int .i64 (chkRoa la)], []⟩ else some ⟨.tup [.own 0, .int .i64 0], [.sl 6 58 (oRows w la)]⟩ := by
      simp only [SOrg, apsOf_map]; rw [if_pos hin]
    have kn3 : SSameNN [.agg [.nils, .nils, .nils], .agg [.nils, .nils, .nils]] = some ⟨.bool true, []⟩ := by
      change SSameD [.agg RS0.cells, .agg RS0.cells] = _
      simp only [SSameD, rsOf_cells]
      rw [if_pos ⟨inRS0, inRS0, lenRS0 _, lenRS0 _⟩]
      simp [sameR]
    have kr3 : ∀ a b : List SP, (∀ s ∈ a, inSP s) → (∀ s ∈ b, inSP s) → a.length ≤ 200 → b.length ≤ 200 → SSameNN [.agg [.rd 4 (sRows a), .rd 4 (sRows b), .rd 2 []], .agg [.rd 4 (sRows a), .rd 4 (sRows b), .rd 2 []]] = some ⟨.bool true, []⟩ := by
      intro a b ha hb l1 l2
      change SSameD [.agg (RS.mk a b []).cells, .agg (RS.mk a b []).cells] = _
      simp only [SSameD, rsOf_cells]
      have hi : inRS (RS.mk a b []) := ⟨ha, hb, fun s hs => by cases hs⟩
      have hl : lenRS 1000000 (RS.mk a b []) := ⟨by show a.length ≤ _; omega, by show b.length ≤ _; omega, by simp⟩
      rw [if_pos ⟨hi, hi, hl, hl⟩]
      simp [sameR]
    have kne := needs_eq (w := w) hin
    refine Runs.of_body Try.func8 (by decide) rfl (by simp [Try.f8]) ?_
    generalize (decide (w = x) && decide (la = lb)) = bq at *
    have hsO := runs_ref14_SameOrigins w la (by omega)
    by_cases hz : chkRoa la = 0
    · have ko := ko0
      rw [if_neg (by omega)] at ko
      have hT := gen _ hsO
      rw [hz] at kc
      clear ko0 gen
      rcases kne with ⟨c, kn, kd⟩ | ⟨a, b, ha, hb, hl1, hl2, kn, kd⟩
      · have ksr := kn3
        clear kr3 kn3
        generalize oRows w la = OR at *
        generalize la.map AP.row = RA at *
        generalize lb.map AP.row = RB at *
        refine W.seqE hT mixed M_f8 (by kernel_rfl) ?_
        simp [Try.f8]
        refine W.seqE hT mixed M_f8 (by kernel_rfl) ?_
        simp [gA, gB]
        refine W.cut True [(2, .ptr 0 0), (3, .ptr 1 0), (5, .ptr 2 0)] [.box 25 [.int .u32 w, .rd 5 RA], .box 25 [.int .u32 x, .rd 5 RB], .box 25 [.int .u32 w, .own 3], .sl 5 76 RA] 86 ?_ ?_
        · refine W.of_WE hT mixed M_f8 _ (by kernel_rfl) ?_
          simp [kt]
        intro _
        refine W.wk (Wk.freeze 3 (.sl 5 76 RA) (by simp) (by simp)) ?_
        refine W.wk (Wk.freeze 2 (.box 25 [.int .u32 w, .rd 5 RA]) (by simp) (by simp)) ?_
        refine W.wk (Wk.freeze 1 (.box 25 [.int .u32 x, .rd 5 RB]) (by simp) (by simp)) ?_
        refine W.wk (Wk.freeze 0 (.box 25 [.int .u32 w, .rd 5 RA]) (by simp) (by simp)) ?_
        refine W.cut True [(2, .rptr [.int .u32 w, .rd 5 RA] 0), (3, .rptr [.int .u32 x, .rd 5 RB] 0), (5, .rptr [.int .u32 w, .rd 5 RA] 0), (6, .ptr 0 0), (7, .int .i64 c)] [.box 64 [.nils, .nils, .nils]] 86 ?_ ?_
        · refine W.of_WE hT mixed M_f8 _ (by kernel_rfl) ?_
          simp [kn]
        intro _
        refine W.wk (Wk.freeze 0 (.box 64 [.nils, .nils, .nils]) (by simp) (by simp)) ?_
        refine W.cut True [(2, .rptr [.int .u32 w, .rd 5 RA] 0), (3, .rptr [.int .u32 x, .rd 5 RB] 0), (5, .rptr [.int .u32 w, .rd 5 RA] 0), (6, .rptr [.nils, .nils, .nils] 0), (7, .int .i64 c), (8, .ptr 0 0), (9, .int .i64 c)] [.box 64 [.nils, .nils, .nils]] 86 ?_ ?_
        · refine W.of_WE hT mixed M_f8 _ (by kernel_rfl) ?_
          simp [kd]
        intro _
        refine W.wk (Wk.freeze 0 (.box 64 [.nils, .nils, .nils]) (by simp) (by simp)) ?_
        refine W.cut True [(2, .rptr [.int .u32 w, .rd 5 RA] 0), (3, .rptr [.int .u32 x, .rd 5 RB] 0), (5, .rptr [.int .u32 w, .rd 5 RA] 0), (6, .rptr [.nils, .nils, .nils] 0), (7, .int .i64 c), (8, .rptr [.nils, .nils, .nils] 0), (9, .int .i64 c), (10, .own 0), (11, .int .i64 0)] [.sl 6 58 OR] 86 ?_ ?_
        · refine W.of_WE hT mixed M_f8 _ (by kernel_rfl) ?_
          simp [ko]
        intro _
        refine W.wk (Wk.freeze 0 (.sl 6 58 OR) (by simp) (by simp)) ?_
        refine W.cut True [(2, .rptr [.int .u32 w, .rd 5 RA] 0), (3, .rptr [.int .u32 x, .rd 5 RB] 0), (5, .rptr [.int .u32 w, .rd 5 RA] 0), (6, .rptr [.nils, .nils, .nils] 0), (7, .int .i64 c), (8, .rptr [.nils, .nils, .nils] 0), (9, .int .i64 c), (10, .rd 6 OR), (11, .int .i64 0), (12, .own 0), (13, .int .i64 0)] [.sl 6 58 OR] 86 ?_ ?_
        · refine W.of_WE hT mixed M_f8 _ (by kernel_rfl) ?_
          simp [ko]
        intro _
        refine W.wk (Wk.freeze 0 (.sl 6 58 OR) (by simp) (by simp)) ?_
        refine W.of_WE hT mixed M_f8 _ (by kernel_rfl) ?_
        simp [Try.f8, kc, ks, ksa, ksr, oneS_self]
      · have ksr := kr3 a b ha hb hl1 hl2
        clear kr3 kn3
        generalize oRows w la = OR at *
        generalize la.map AP.row = RA at *
        generalize lb.map AP.row = RB at *
        generalize sRows a = SA at *
        generalize sRows b = SB at *
        refine W.seqE hT mixed M_f8 (by kernel_rfl) ?_
        simp [Try.f8]
        refine W.seqE hT mixed M_f8 (by kernel_rfl) ?_
        simp [gA, gB]
        refine W.cut True [(2, .ptr 0 0), (3, .ptr 1 0), (5, .ptr 2 0)] [.box 25 [.int .u32 w, .rd 5 RA], .box 25 [.int .u32 x, .rd 5 RB], .box 25 [.int .u32 w, .own 3], .sl 5 76 RA] 86 ?_ ?_
        · refine W.of_WE hT mixed M_f8 _ (by kernel_rfl) ?_
          simp [kt]
        intro _
        refine W.wk (Wk.freeze 3 (.sl 5 76 RA) (by simp) (by simp)) ?_
        refine W.wk (Wk.freeze 2 (.box 25 [.int .u32 w, .rd 5 RA]) (by simp) (by simp)) ?_
        refine W.wk (Wk.freeze 1 (.box 25 [.int .u32 x, .rd 5 RB]) (by simp) (by simp)) ?_
        refine W.wk (Wk.freeze 0 (.box 25 [.int .u32 w, .rd 5 RA]) (by simp) (by simp)) ?_
        refine W.cut True [(2, .rptr [.int .u32 w, .rd 5 RA] 0), (3, .rptr [.int .u32 x, .rd 5 RB] 0), (5, .rptr [.int .u32 w, .rd 5 RA] 0), (6, .ptr 0 0), (7, .int .i64 0)] [.box 64 [.own 1, .own 2, .own 3], .sl 4 79 SA, .sl 4 79 SB, .sl 2 181 []] 86 ?_ ?_
        · refine W.of_WE hT mixed M_f8 _ (by kernel_rfl) ?_
          simp [kn]
        intro _
        refine W.wk (Wk.freeze 1 (.sl 4 79 SA) (by simp) (by simp)) ?_
        refine W.wk (Wk.freeze 2 (.sl 4 79 SB) (by simp) (by simp)) ?_
        refine W.wk (Wk.freeze 3 (.sl 2 181 []) (by simp) (by simp)) ?_
        refine W.wk (Wk.freeze 0 (.box 64 [.rd 4 SA, .rd 4 SB, .rd 2 []]) (by simp) (by simp)) ?_
        refine W.cut True [(2, .rptr [.int .u32 w, .rd 5 RA] 0), (3, .rptr [.int .u32 x, .rd 5 RB] 0), (5, .rptr [.int .u32 w, .rd 5 RA] 0), (6, .rptr [.rd 4 SA, .rd 4 SB, .rd 2 []] 0), (7, .int .i64 0), (8, .ptr 0 0), (9, .int .i64 0)] [.box 64 [.rd 4 SA, .rd 4 SB, .rd 2 []]] 86 ?_ ?_
        · refine W.of_WE hT mixed M_f8 _ (by kernel_rfl) ?_
          simp [kd]
        intro _
        refine W.wk (Wk.freeze 0 (.box 64 [.rd 4 SA, .rd 4 SB, .rd 2 []]) (by simp) (by simp)) ?_
        refine W.cut True [(2, .rptr [.int .u32 w, .rd 5 RA] 0), (3, .rptr [.int .u32 x, .rd 5 RB] 0), (5, .rptr [.int .u32 w, .rd 5 RA] 0), (6, .rptr [.rd 4 SA, .rd 4 SB, .rd 2 []] 0), (7, .int .i64 0), (8, .rptr [.rd 4 SA, .rd 4 SB, .rd 2 []] 0), (9, .int .i64 0), (10, .own 0), (11, .int .i64 0)] [.sl 6 58 OR] 86 ?_ ?_
        · refine W.of_WE hT mixed M_f8 _ (by kernel_rfl) ?_
          simp [ko]
        intro _
        refine W.wk (Wk.freeze 0 (.sl 6 58 OR) (by simp) (by simp)) ?_
        refine W.cut True [(2, .rptr [.int .u32 w, .rd 5 RA] 0), (3, .rptr [.int .u32 x, .rd 5 RB] 0), (5, .rptr [.int .u32 w, .rd 5 RA] 0), (6, .rptr [.rd 4 SA, .rd 4 SB, .rd 2 []] 0), (7, .int .i64 0), (8, .rptr [.rd 4 SA, .rd 4 SB, .rd 2 []] 0), (9, .int .i64 0), (10, .rd 6 OR), (11, .int .i64 0), (12, .own 0), (13, .int .i64 0)] [.sl 6 58 OR] 86 ?_ ?_
        · refine W.of_WE hT mixed M_f8 _ (by kernel_rfl) ?_
          simp [ko]
        intro _
        refine W.wk (Wk.freeze 0 (.sl 6 58 OR) (by simp) (by simp)) ?_
        refine W.of_WE hT mixed M_f8 _ (by kernel_rfl) ?_
        simp [Try.f8, kc, ks, ksa, ksr, oneS_self]
    · have ko := ko0
      rw [if_pos hz] at ko
      have hT := gen _ runs_sameO_nil
      have kn : SNeeR [.agg [.int .u32 w, .rd 5 (la.map AP.row)]] = some ⟨.tup [.agg [.nils, .nils, .nils], .int .i64 (chkRoa la)], []⟩ := by
        simp only [SNeeR, apsOf_map]; rw [if_pos hin, if_pos hz]
      have kd : SNeeD [.agg [.int .u32 w, .rd 5 (la.map AP.row)]] = some ⟨.tup [.agg [.nils, .nils, .nils], .int .i64 (chkRoa la)], []⟩ := by
        simp only [SNeeD, apsOf_map]; rw [if_pos hin, if_pos hz]
      have ksr := kn3
      clear kr3 kn3 kne ko0 gen
      generalize chkRoa la = cz at *
      generalize la.map AP.row = RA at *
      generalize lb.map AP.row = RB at *
      refine W.seqE hT mixed M_f8 (by kernel_rfl) ?_
      simp [Try.f8]
      refine W.seqE hT mixed M_f8 (by kernel_rfl) ?_
      simp [gA, gB]
      refine W.cut True [(2, .ptr 0 0), (3, .ptr 1 0), (5, .ptr 2 0)] [.box 25 [.int .u32 w, .rd 5 RA], .box 25 [.int .u32 x, .rd 5 RB], .box 25 [.int .u32 w, .own 3], .sl 5 76 RA] 86 ?_ ?_
      · refine W.of_WE hT mixed M_f8 _ (by kernel_rfl) ?_
        simp [kt]
      intro _
      refine W.wk (Wk.freeze 3 (.sl 5 76 RA) (by simp) (by simp)) ?_
      refine W.wk (Wk.freeze 2 (.box 25 [.int .u32 w, .rd 5 RA]) (by simp) (by simp)) ?_
      refine W.wk (Wk.freeze 1 (.box 25 [.int .u32 x, .rd 5 RB]) (by simp) (by simp)) ?_
      refine W.wk (Wk.freeze 0 (.box 25 [.int .u32 w, .rd 5 RA]) (by simp) (by simp)) ?_
      refine W.cut True [(2, .rptr [.int .u32 w, .rd 5 RA] 0), (3, .rptr [.int .u32 x, .rd 5 RB] 0), (5, .rptr [.int .u32 w, .rd 5 RA] 0), (6, .ptr 0 0), (7, .int .i64 cz)] [.box 64 [.nils, .nils, .nils]] 86 ?_ ?_
      · refine W.of_WE hT mixed M_f8 _ (by kernel_rfl) ?_
        simp [kn]
      intro _
      refine W.wk (Wk.freeze 0 (.box 64 [.nils, .nils, .nils]) (by simp) (by simp)) ?_
      refine W.cut True [(2, .rptr [.int .u32 w, .rd 5 RA] 0), (3, .rptr [.int .u32 x, .rd 5 RB] 0), (5, .rptr [.int .u32 w, .rd 5 RA] 0), (6, .rptr [.nils, .nils, .nils] 0), (7, .int .i64 cz), (8, .ptr 0 0), (9, .int .i64 cz)] [.box 64 [.nils, .nils, .nils]] 86 ?_ ?_
      · refine W.of_WE hT mixed M_f8 _ (by kernel_rfl) ?_
        simp [kd]
      intro _
      refine W.wk (Wk.freeze 0 (.box 64 [.nils, .nils, .nils]) (by simp) (by simp)) ?_
      refine W.cut True [(2, .rptr [.int .u32 w, .rd 5 RA] 0), (3, .rptr [.int .u32 x, .rd 5 RB] 0), (5, .rptr [.int .u32 w, .rd 5 RA] 0), (6, .rptr [.nils, .nils, .nils] 0), (7, .int .i64 cz), (8, .rptr [.nils, .nils, .nils] 0), (9, .int .i64 cz), (10, .nils), (11, .int .i64 cz)] [] 86 ?_ ?_
      · refine W.of_WE hT mixed M_f8 _ (by kernel_rfl) ?_
        simp [ko]
      intro _
      refine W.cut True [(2, .rptr [.int .u32 w, .rd 5 RA] 0), (3, .rptr [.int .u32 x, .rd 5 RB] 0), (5, .rptr [.int .u32 w, .rd 5 RA] 0), (6, .rptr [.nils, .nils, .nils] 0), (7, .int .i64 cz), (8, .rptr [.nils, .nils, .nils] 0), (9, .int .i64 cz), (10, .nils), (11, .int .i64 cz), (12, .nils), (13, .int .i64 cz)] [] 86 ?_ ?_
      · refine W.of_WE hT mixed M_f8 _ (by kernel_rfl) ?_
        simp [ko]
      intro _
      refine W.of_WE hT mixed M_f8 _ (by kernel_rfl) ?_
      simp [Try.f8, kc, ks, ksa, ksr, oneS_self]
  · refine Runs.of_body Try.func8 (by decide) rfl (by simp [Try.f8]) ?_
    have hT : (T0.add 10 SGreat).ok Try.prog := Tab.add_ok (T0_ok _) runs_ref14_Great
    refine W.of_WE hT mixed M_f8 _ (by kernel_rfl) ?_
    by_cases h1 : 130 < la.length
    · rw [decide_eq_true h1] at gA
      simp [Try.f8, gA]
    · rw [decide_eq_false h1] at gA
      rw [decide_eq_true (show 130 < lb.length by omega)] at gB
      simp [Try.f8, gA, gB]

end Go.Proofs.Ythfbddnpakhjiaa.AL
