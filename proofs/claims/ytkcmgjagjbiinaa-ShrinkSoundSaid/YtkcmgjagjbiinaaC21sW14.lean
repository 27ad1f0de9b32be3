import Derived.Test.YtkcmgjagjbiinaaC21sW13
/- What single functions compute: a part of the proof; no conditions. -/
set_option linter.unusedVariables false
set_option linter.unusedSimpArgs false
set_option maxRecDepth 100000
namespace Go.Proofs.Ytkcmgjagjbiinaa.AL
open Go
attribute [local simp] qf cv qbin ibin sbin qun retPost rvOk ctV ctPost marksOk retV resAll resOf V.lt ltL V.ren renL V.exp V.exp1 cleanL V.clean closedL V.closed V.cells V.one V.tree
  loadV cellsAt isNC nilQ isSlD isIfD slNew ownRows ownCells V.isOwn slStore srcO qlook mlook mget mstr zval qnone qmake mput lmap isAggD placesOf fillV putCells lstore bound seqParts V.sh shL Blk.sh newV V.ok peqs peq srcRows appOk mmV mmR hidE V.fz fzL Blk.fz fzOk and_assoc
attribute [-simp] Int.not_le Int.not_lt Nat.not_le Nat.not_lt
theorem inL_trX {a b : List HD} (H : PL a b) (k : Nat) : inL (trX a (RK a b k)) := by
  refine ⟨fun h hh => ?_, by rw [trX_len]; exact H.ia.2⟩
  obtain ⟨i, hi, rfl⟩ := List.getElem_of_mem hh
  have hi' : i < a.length := by simpa using hi
  have h1 := H.ia.1 _ (List.getElem_mem hi')
  have h2 := H.ok (k := k) hi'
  rw [← hd_get hi, trX_get hi', hd_get hi']
  exact ⟨h1.1, h1.2.1, h2.1.i, len1M h2.2 (by omega)⟩
theorem chk_trX {a b : List HD} (H : PL a b) (k : Nat) : chkT (trX a (RK a b k)) = 0 := chkT_trX H.ca fun i hi => (H.ok hi).1.c
theorem app_trX {a b : List HD} (H : PL a b) {k : Nat} (hk : k < (planS a b).length) : SApp [.rd 5 (hRows (trX a (RK a b k))), .agg (planS a b)[k].row] = some ⟨.tup [.rd 5 (hRows (trX a (RK a b (k + 1)))), .int .i64 0], []⟩ := by
  obtain ⟨i, hi, hn, hr, hl, ht, hs⟩ := H.step hk
  have h1 := appT_trX (R := RK a b k) H.ca hi (fun j hj => (H.ok hj).1) hr hs
  have hsz := (H.ia.1 _ (List.getElem_mem hi)).1
  have e1 := rsOf_cells (planS a b)[k].r
  simp only [RS.cells] at e1
  simp only [SApp, SO.row, hRows_parse, e1]
  rw [if_pos ⟨inL_trX H k, by rw [hn, hd_get hi]; exact hsz, hr.i, len1M hl (by omega)⟩, hn, h1, ← ht]
theorem exc_trX {a b : List HD} (H : PL a b) {k : Nat} (hk : k < (planS a b).length) : SExcs [.rd 5 (hRows (trX a (RK a b (k + 1))))] = some ⟨.tup [.rd 1 [], .int .i64 0], []⟩ := by
  obtain ⟨i, hi, hn, hr, hl, ht, hs⟩ := H.step hk
  have hR : ∀ j, j < a.length → okR (upd (RK a b k) i (planS a b)[k].r j) := fun j hj => by unfold upd; split; exact hr; exact (H.ok hj).1
  have he : excL (trX a (RK a b (k + 1))) = [] := by rw [ht]; exact excL_trX hR hs
  simp only [SExcs, hRows_parse]
  rw [if_pos (inL_trX H (k + 1)), if_neg (by rw [chk_trX H (k + 1)]; simp), he]
  rfl
def M_f7 : Md := fun i => some #[]
@[simp] theorem M_f7_eq {i : Nat} : M_f7 i = (some #[]) := rfl
theorem shrinkSound_runs : ∀ As, ArgsV Try.prog Try.f7.params.toList [[.sl [.str, .str, .sl [.int .u64, .int .u64, .int .u64, .int .u64], .sl [.int .u64, .int .u64, .int .u64, .int .u64], .sl [.int .u32, .int .u32]]], [.sl [.str, .str, .sl [.int .u64, .int .u64, .int .u64, .int .u64], .sl [.int .u64, .int .u64, .int .u64, .int .u64], .sl [.int .u32, .int .u32]]]] As → Runs Try.prog 7 As ⟨.bool true, []⟩ := by
  intro As h
  obtain ⟨a, ia, b, ib, rfl⟩ : ∃ a : List HD, (∀ h ∈ a, inRS h.r) ∧ ∃ b : List HD, (∀ h ∈ b, inRS h.r) ∧ As = [.rd 5 (hRows a), .rd 5 (hRows b)] := by
    simp only [Try.f7, ArgsV] at h
    obtain ⟨_, _, V1, _, e1, rfl, h1, _, _, V2, _, e2, rfl, h2, rfl, rfl⟩ := h
    simp only [List.cons.injEq] at e1
    obtain ⟨rfl, rfl⟩ := e1
    simp only [List.cons.injEq] at e2
    obtain ⟨rfl, _⟩ := e2
    obtain ⟨a, rfl, ia⟩ := hl_of_shape h1
    obtain ⟨b, rfl, ib⟩ := hl_of_shape h2
    exact ⟨a, ia, b, ib, by simp [argV]⟩
  have gA := grL_at a
  have gB := grL_at b
  have ho := aliveS
  have hT : ((((((T0.add 21 (oneS [] ⟨.bool true, []⟩)).add 10 SGrL).add 22 SPlan).add 12 STwH).add 14 SApp).add 27 SExcs).ok Try.prog :=
    Tab.add_ok (Tab.add_ok (Tab.add_ok (Tab.add_ok (Tab.add_ok (Tab.add_ok (T0_ok _) (oneS_ok runs_law21_alive)) runs_ref21_Great) runs_shrink_Plan) runs_ref21_Twin) runs_shrink_Apply) runs_shrink_Excess
  have hT2 : (T0.add 18 SSmT).ok Try.prog := Tab.add_ok (T0_ok _) runs_ref21_Same
  refine Runs.of_body Try.func7 (by decide) rfl (by simp [Try.f7]) ?_
  refine W.seqE hT mixed M_f7 (by kernel_rfl) ?_
  simp [Try.f7]
  refine W.cut True [(0, .rd 5 (hRows a)), (1, .rd 5 (hRows b)), (5, .bool true)] [] 84 ?_ ?_
  · refine W.of_WE hT mixed M_f7 _ (by kernel_rfl) ?_
    simp [ho]
  intro _
  cases ga : grtL a
  case true =>
    rw [ga] at gA
    refine W.of_WE hT mixed M_f7 _ (by kernel_rfl) ?_
    simp [gA]
  case false =>
  rw [ga] at gA
  cases gb : grtL b
  case true =>
    rw [gb] at gB
    refine W.of_WE hT mixed M_f7 _ (by kernel_rfl) ?_
    simp [gA, gB]
  case false =>
  rw [gb] at gB
  obtain ⟨ja, sa⟩ := dom_of ga ia
  obtain ⟨jb, sb⟩ := dom_of gb ib
  have hp := plan_at ja jb sa sb
  refine W.seqE hT mixed M_f7 (by kernel_rfl) ?_
  simp [gA, gB]
  by_cases hE : planE a b = 0
  case neg =>
    rw [if_pos hE] at hp
    refine W.cut True [(5, .bool true), (6, .nils), (7, .int .i64 (planE a b))] [] 84 ?_ ?_
    · refine W.of_WE hT mixed M_f7 _ (by kernel_rfl) ?_
      simp [hp]
    intro _
    refine W.of_WE hT mixed M_f7 _ (by kernel_rfl) ?_
    simp [hE]
  case pos =>
  rw [if_neg (by simpa using hE)] at hp
  obtain ⟨hza, hzb, hsh, _, _⟩ := planE_0 hE
  have hleq := shp_len hsh
  obtain ⟨ST, hST⟩ : ∃ ST, ST = planS a b := ⟨_, rfl⟩
  rw [← hST] at hp
  have hSTl : ST.length ≤ 10000000 := by
    rw [hST]
    have h1 := foldS_len b (bothI a b) (resI b) (downL a false) ((downL a true).foldl (fun st i => addS st (a.getD i HD0) (bothI a b i) (bothI a b i)) [])
    have h2 := foldS_len a (bothI a b) (bothI a b) (downL a true) []
    have h3 := downL_len true ja.2
    have h4 := downL_len false ja.2
    simp only [List.length_nil] at h2
    exact Nat.le_trans h1 (by omega)
  have H : PL a b := ⟨ja, jb, sa, sb, hE⟩
  have hle : ST.length ≤ 2 * a.length := by rw [hST]; exact plan_le hza
  have happ : ∀ k (hk : k < ST.length), SApp [.rd 5 (hRows (trX a (RK a b k))), .agg ST[k].row] = some ⟨.tup [.rd 5 (hRows (trX a (RK a b (k + 1)))), .int .i64 0], []⟩ := fun k hk => by
    subst hST; exact app_trX H hk
  have hexc : ∀ k, k < ST.length → SExcs [.rd 5 (hRows (trX a (RK a b (k + 1))))] = some ⟨.tup [.rd 1 [], .int .i64 0], []⟩ := fun k hk => by
    subst hST; exact exc_trX H hk
  have hlast : trX a (RK a b ST.length) = b := by rw [hST, plan_len]; exact H.final
  have hfirst := H.first
  have htw : STwH [.rd 5 (hRows a)] = some ⟨.rd 5 (hRows a), []⟩ := by
    simp only [STwH, hRows_parse]; rw [if_pos ⟨ja.2, fun h hm => (ja.1 h hm).2.2.2⟩]
  have hsm : SSmT [.rd 5 (hRows b), .rd 5 (hRows b)] = some ⟨.bool true, []⟩ := by
    simp only [SSmT, hRows_parse]
    rw [if_pos ⟨fun h hm => (jb.1 h hm).2.2, fun h hm => (jb.1 h hm).2.2, jb.2, jb.2⟩, samT_self]
  have hla := ja.2
  refine W.cut True [(0, .rd 5 (hRows a)), (1, .rd 5 (hRows b)), (5, .bool true), (6, .rd 4 (oRowsS ST)), (7, .int .i64 0)] [] 84 ?_ ?_
  · refine W.of_WE hT mixed M_f7 _ (by kernel_rfl) ?_
    simp [hp]
  intro _
  refine W.seqE hT mixed M_f7 (by kernel_rfl) ?_
  simp
  have hw2 : IntKind.i64.wrap (2 * (a.length : Int)) = 2 * (a.length : Int) := wr_i64 (by omega) (by omega)
  have hle' : ¬ (2 * (a.length : Int) < ST.length) := by omega
  refine W.seqE hT mixed M_f7 (by kernel_rfl) ?_
  simp [hw2, hle']
  refine W.cut True [(0, .rd 5 (hRows a)), (1, .rd 5 (hRows b)), (5, .bool true), (6, .rd 4 (oRowsS ST)), (8, .rd 5 (hRows (trX a (RK a b 0))))] [] 84 ?_ ?_
  · refine W.of_WE hT mixed M_f7 _ (by kernel_rfl) ?_
    simp [htw, hfirst]
  intro _
  refine W.cut True [(1, .rd 5 (hRows b)), (5, .bool true), (8, .rd 5 (hRows b))] [] 84 ?_ ?_
  · refine W.seqE hT mixed M_f7 (by kernel_rfl) ?_
    simp
    refine W.block (W.for (fun _ => True) (fun k => [(1, .rd 5 (hRows b)), (5, .bool true), (6, .rd 4 (oRowsS ST)), (8, .rd 5 (hRows (trX a (RK a b k)))), (9, .int .i64 k)]) (fun _ => []) 84 ST.length trivial ?_ ?_)
    · simp
    · intro k hk _
      by_cases hlt : k < ST.length
      · have hw1 : IntKind.i64.wrap ((k : Int) + 1) = k + 1 := wr_i64 (by omega) (by omega)
        have h1 := happ k hlt
        have h2 := hexc k hlt
        simp only [SO.row] at h1
        refine W.seqE hT mixed M_f7 (by kernel_rfl) ?_
        simp [hlt]
        refine W.of_WE hT mixed M_f7 _ (by kernel_rfl) ?_
        generalize hRows (trX a (RK a b k)) = A0 at *
        generalize hRows (trX a (RK a b (k + 1))) = A1 at *
        simp [hlt, SO.row, h1, h2, hw1]
      · have : k = ST.length := by omega
        subst this
        rw [hlast]
        refine W.of_WE hT mixed M_f7 _ (by kernel_rfl) ?_
        simp
  intro _
  refine W.of_WE hT2 mixed M_f7 _ (by kernel_rfl) ?_
  simp [hsm]

end Go.Proofs.Ytkcmgjagjbiinaa.AL
