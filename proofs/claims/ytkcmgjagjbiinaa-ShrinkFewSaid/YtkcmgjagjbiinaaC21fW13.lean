import Derived.Test.YtkcmgjagjbiinaaC21fW12
/- What single functions compute: a part of the proof; no conditions. -/
set_option linter.unusedVariables false
set_option linter.unusedSimpArgs false
set_option maxRecDepth 100000
namespace Go.Proofs.Ytkcmgjagjbiinaa.AL
open Go
attribute [local simp] qf cv qbin ibin sbin qun retPost rvOk ctV ctPost marksOk retV resAll resOf V.lt ltL V.ren renL V.exp V.exp1 cleanL V.clean closedL V.closed V.cells V.one V.tree
  loadV cellsAt isNC nilQ isSlD isIfD slNew ownRows ownCells V.isOwn slStore srcO qlook mlook mget mstr zval qnone qmake mput lmap isAggD placesOf fillV putCells lstore bound seqParts V.sh shL Blk.sh newV V.ok peqs peq srcRows appOk mmV mmR hidE V.fz fzL Blk.fz fzOk and_assoc
attribute [-simp] Int.not_le Int.not_lt Nat.not_le Nat.not_lt
theorem hs_of_shape : ∀ {rows : List (List V)}, (∀ r ∈ rows, LSh [.str, .str, .sl [.int .u64, .int .u64, .int .u64, .int .u64], .sl [.int .u64, .int .u64, .int .u64, .int .u64], .sl [.int .u32, .int .u32]] r) → ∃ l : List HD, rows = hRows l ∧ ∀ h ∈ l, inRS h.r
  | [], _ => ⟨[], rfl, by simp⟩
  | r :: rows, h => by
    have h1 := h r List.mem_cons_self
    obtain ⟨l, rfl, hl⟩ := hs_of_shape (rows := rows) fun q hq => h q (List.mem_cons_of_mem _ hq)
    obtain ⟨n, p, vs, rfl, h2⟩ : ∃ n p vs, r = .str n :: .str p :: vs ∧ LSh [.sl [.int .u64, .int .u64, .int .u64, .int .u64], .sl [.int .u64, .int .u64, .int .u64, .int .u64], .sl [.int .u32, .int .u32]] vs := by
      unfold LSh at h1
      obtain ⟨_, _, rfl, h3, h1⟩ := h1
      unfold LSh at h1
      obtain ⟨_, _, rfl, h4, h1⟩ := h1
      simp only [VSh] at h3 h4
      obtain ⟨n, rfl, _⟩ := h3
      obtain ⟨p, rfl, _⟩ := h4
      exact ⟨n, p, _, rfl, h1⟩
    obtain ⟨q, rfl, hq⟩ := rs_of_shape h2
    refine ⟨⟨n, p, q⟩ :: l, rfl, fun x hx => ?_⟩
    rcases List.mem_cons.1 hx with rfl | hx
    · exact hq
    · exact hl x hx
theorem hl_of_shape {vs : List V} (h : LSh [.sl [.str, .str, .sl [.int .u64, .int .u64, .int .u64, .int .u64], .sl [.int .u64, .int .u64, .int .u64, .int .u64], .sl [.int .u32, .int .u32]]] vs) : ∃ l : List HD, vs = [.rd 5 (hRows l)] ∧ ∀ h ∈ l, inRS h.r := by
  unfold LSh at h
  obtain ⟨v, vs', rfl, h1, h2⟩ := h
  unfold VSh at h1
  obtain ⟨rows, rfl, _, hrows⟩ := h1
  obtain ⟨l, rfl, hl⟩ := hs_of_shape hrows
  unfold LSh at h2
  subst h2
  exact ⟨l, by simp [shLen], hl⟩
theorem dom_of {l : List HD} (hg : grtL l = false) (hi : ∀ h ∈ l, inRS h.r) : inL l ∧ (chkT l = 0 → small l) := by
  unfold grtL at hg
  rw [Bool.or_eq_false_iff, decide_eq_false_iff_not, List.any_eq_false] at hg
  have key : ∀ h ∈ l, h.n.size ≤ 100 ∧ h.p.size ≤ 100 ∧ grt h.r.l4.length = false ∧ grt h.r.l6.length = false ∧ grt h.r.la.length = false := by
    intro h hm
    have := hg.2 h hm
    unfold grtH at this
    simp only [Bool.not_eq_true, Bool.or_eq_false_iff, decide_eq_false_iff_not] at this
    exact ⟨by omega, by omega, this.2.1.1, this.2.1.2, this.2.2⟩
  refine ⟨⟨fun h hm => ?_, by omega⟩, fun hc h hm => ?_⟩
  · obtain ⟨k1, k2, k3, k4, k5⟩ := key h hm
    exact ⟨by omega, by omega, hi h hm, ⟨by have := grt_len k3; omega, by have := grt_len k4; omega, by have := grt_len k5; omega⟩⟩
  · obtain ⟨i, hil, rfl⟩ := List.getElem_of_mem hm
    obtain ⟨k1, k2, k3, k4, k5⟩ := key l[i] hm
    have hr := (chkT_R hc i hil).2
    rw [hd_get hil] at hr
    have hl := chkR_len hr
    have f : ∀ n, grt n = false → n ≤ 200 → n ≤ 100 := by
      intro n h1 h2
      unfold grt at h1
      simp at h1
      omega
    exact ⟨f _ k3 hl.1, f _ k4 hl.2.1, f _ k5 hl.2.2⟩
theorem grL_at (l : List HD) : SGrL [.rd 5 (hRows l)] = some ⟨.bool (grtL l), []⟩ := by simp only [SGrL, hRows_parse]
theorem len1M {r : RS} {n : Nat} (h : lenRS n r) (hn : n ≤ 1000000) : lenRS 1000000 r := ⟨by have := h.1; omega, by have := h.2.1; omega, by have := h.2.2; omega⟩
theorem okR_len {r : RS} (h : okR r) : lenRS 1000000 r := len1M (chkR_len h.c) (by omega)
theorem cont_ok {a b : RS} (ha : okR a) (hb : okR b) : SCont [.agg a.cells, .agg b.cells] = some ⟨.tup [.bool (contR a b), .int .i64 0], []⟩ := by
  have := cont_at ha.i hb.i (okR_len ha) (okR_len hb)
  rw [ha.c, hb.c] at this
  simpa [orE2] using this
theorem aliveS : oneS [] ⟨.bool true, []⟩ [] = some ⟨.bool true, []⟩ := oneS_self
/-- What is known of one index of two trees between which there is a plan. -/
structure Two (a b : List HD) (i : Nat) : Prop where
  ha : i < a.length
  hb : i < b.length
  oa : okR (a.getD i HD0).r
  ob : okR (b.getD i HD0).r
  la : lenRS 100 (a.getD i HD0).r
  lb : lenRS 100 (b.getD i HD0).r
  oi : okR (bothI a b i)
theorem two_of {a b : List HD} {i : Nat} (ia : inL a) (ib : inL b) (sa : chkT a = 0 → small a) (sb : chkT b = 0 → small b) (hE : planE a b = 0) (hi : i < a.length) : Two a b i := by
  obtain ⟨ha, hb, hs, _, _⟩ := planE_0 hE
  have hib : i < b.length := by have := shp_len hs; omega
  have la : lenRS 100 (a.getD i HD0).r := by rw [hd_get hi]; exact sa ha _ (List.getElem_mem hi)
  have lb : lenRS 100 (b.getD i HD0).r := by rw [hd_get hib]; exact sb hb _ (List.getElem_mem hib)
  exact ⟨hi, hib, okT ia ha hi, okT ib hb hib, la, lb, okR_int (okT ia ha hi) (okT ib hb hib) la lb⟩
theorem contR_refl {a : RS} (ha : okR a) : contR a a = true := (cont_iff ha ha).2 (leR.refl a)
def M_f4 : Md := fun i => if i = 13 then some #[0, 0, 3, 7, 15, 0, 0, 96, 224, 480, 1023, 2047, 4095, 4095, 0, 24575, 65535] else if i = 14 then some #[0, 0, 3, 7, 15, 0, 63, 127, 255, 255, 511, 2047] else if i = 15 then some #[0, 0, 3, 7, 15, 0, 0, 96, 224, 480, 1023, 2047, 4095, 4095, 8191, 32767] else if i = 16 then some #[0, 0, 3, 7, 15, 0, 0, 96, 224, 480, 1023, 2047, 4095, 4095, 8191, 32767] else some #[]
@[simp] theorem M_f4_eq {i : Nat} : M_f4 i = (if i = 13 then some #[0, 0, 3, 7, 15, 0, 0, 96, 224, 480, 1023, 2047, 4095, 4095, 0, 24575, 65535] else if i = 14 then some #[0, 0, 3, 7, 15, 0, 63, 127, 255, 255, 511, 2047] else if i = 15 then some #[0, 0, 3, 7, 15, 0, 0, 96, 224, 480, 1023, 2047, 4095, 4095, 8191, 32767] else if i = 16 then some #[0, 0, 3, 7, 15, 0, 0, 96, 224, 480, 1023, 2047, 4095, 4095, 8191, 32767] else some #[]) := rfl
theorem shrinkHolds_runs : ∀ As, ArgsV Try.prog Try.f4.params.toList [[.sl [.str, .str, .sl [.int .u64, .int .u64, .int .u64, .int .u64], .sl [.int .u64, .int .u64, .int .u64, .int .u64], .sl [.int .u32, .int .u32]]], [.sl [.str, .str, .sl [.int .u64, .int .u64, .int .u64, .int .u64], .sl [.int .u64, .int .u64, .int .u64, .int .u64], .sl [.int .u32, .int .u32]]]] As → Runs Try.prog 4 As ⟨.bool true, []⟩ := by
  intro As h
  obtain ⟨a, ia, b, ib, rfl⟩ : ∃ a : List HD, (∀ h ∈ a, inRS h.r) ∧ ∃ b : List HD, (∀ h ∈ b, inRS h.r) ∧ As = [.rd 5 (hRows a), .rd 5 (hRows b)] := by
    simp only [Try.f4, ArgsV] at h
    obtain ⟨_, _, V1, _, e1, rfl, h1, _, _, V2, _, e2, rfl, h2, rfl, rfl⟩ := h
    simp only [List.cons.injEq] at e1
    obtain ⟨rfl, rfl⟩ := e1
    simp only [List.cons.injEq] at e2
    obtain ⟨rfl, _⟩ := e2
    obtain ⟨a, rfl, ia⟩ := hl_of_shape h1
    obtain ⟨b, rfl, ib⟩ := hl_of_shape h2
    exact ⟨a, ia, b, ib, by simp [argV]⟩
  have gA := grL_at a
  have gB := grL_at b
  have ho := aliveS
  have hT : ((((((T0.add 21 (oneS [] ⟨.bool true, []⟩)).add 10 SGrL).add 22 SPlan).add 23 SPlc).add 24 SOInt).add 25 SCont).ok Try.prog :=
    Tab.add_ok (Tab.add_ok (Tab.add_ok (Tab.add_ok (Tab.add_ok (Tab.add_ok (T0_ok _) (oneS_ok runs_law21_alive)) runs_ref21_Great) runs_shrink_Plan) runs_ref21_Place) runs_resource_Int) runs_resource_Contains
  refine Runs.of_body Try.func4 (by decide) rfl (by simp [Try.f4]) ?_
  refine W.seqE hT mixed M_f4 (by kernel_rfl) ?_
  simp [Try.f4]
  refine W.cut True [(0, .rd 5 (hRows a)), (1, .rd 5 (hRows b)), (5, .bool true)] [] 144 ?_ ?_
  · refine W.of_WE hT mixed M_f4 _ (by kernel_rfl) ?_
    simp [ho]
  intro _
  cases ga : grtL a
  case true =>
    rw [ga] at gA
    refine W.of_WE hT mixed M_f4 _ (by kernel_rfl) ?_
    simp [gA]
  case false =>
  rw [ga] at gA
  cases gb : grtL b
  case true =>
    rw [gb] at gB
    refine W.of_WE hT mixed M_f4 _ (by kernel_rfl) ?_
    simp [gA, gB]
  case false =>
  rw [gb] at gB
  obtain ⟨ja, sa⟩ := dom_of ga ia
  obtain ⟨jb, sb⟩ := dom_of gb ib
  have hp := plan_at ja jb sa sb
  refine W.seqE hT mixed M_f4 (by kernel_rfl) ?_
  simp [gA, gB]
  by_cases hE : planE a b = 0
  case neg =>
    rw [if_pos hE] at hp
    refine W.cut True [(5, .bool true), (7, .int .i64 (planE a b))] [] 144 ?_ ?_
    · refine W.of_WE hT mixed M_f4 _ (by kernel_rfl) ?_
      simp [hp]
    intro _
    refine W.of_WE hT mixed M_f4 _ (by kernel_rfl) ?_
    simp [hE]
  case pos =>
  rw [if_neg (by simpa using hE)] at hp
  obtain ⟨hza, hzb, hsh, _, _⟩ := planE_0 hE
  have hleq := shp_len hsh
  obtain ⟨ST, hST⟩ : ∃ ST, ST = planS a b := ⟨_, rfl⟩
  have hstep : ∀ s ∈ ST, ∃ i, i < a.length ∧ s.n = (a.getD i HD0).n ∧ (s.r = bothI a b i ∨ s.r = resI b i) := fun s hs => plan_step hsh (by rw [← hST]; exact hs)
  rw [← hST] at hp
  have hSTl : ST.length ≤ 10000000 := by
    rw [hST]
    have h1 := foldS_len b (bothI a b) (resI b) (downL a false) ((downL a true).foldl (fun st i => addS st (a.getD i HD0) (bothI a b i) (bothI a b i)) [])
    have h2 := foldS_len a (bothI a b) (bothI a b) (downL a true) []
    have h3 := downL_len true ja.2
    have h4 := downL_len false ja.2
    simp only [List.length_nil] at h2
    exact Nat.le_trans h1 (by omega)
  refine W.cut True [(0, .rd 5 (hRows a)), (1, .rd 5 (hRows b)), (5, .bool true), (6, .rd 4 (oRowsS ST)), (7, .int .i64 0)] [] 144 ?_ ?_
  · refine W.of_WE hT mixed M_f4 _ (by kernel_rfl) ?_
    simp [hp]
  intro _
  refine W.seqE hT mixed M_f4 (by kernel_rfl) ?_
  simp [hleq]
  refine W.cut True [(5, .bool true)] [] 144 ?_ ?_
  · refine W.seqE hT mixed M_f4 (by kernel_rfl) ?_
    simp
    refine W.block (W.for (fun _ => True) (fun k => [(0, .rd 5 (hRows a)), (1, .rd 5 (hRows b)), (5, .bool true), (6, .rd 4 (oRowsS ST)), (8, .int .i64 k)]) (fun _ => []) 144 ST.length trivial ?_ ?_)
    · simp
    · intro k hk _
      by_cases hlt : k < ST.length
      · have hw1 : IntKind.i64.wrap ((k : Int) + 1) = k + 1 := wr_i64 (by omega) (by omega)
        obtain ⟨i, hi, hn, hr⟩ := hstep _ (List.getElem_mem hlt)
        obtain ⟨_, hib, oa, ob, la, lb, oi⟩ := two_of ja jb sa sb hE hi
        have hri : resI b i = (b.getD i HD0).r := rfl
        have os : okR ST[k].r := by rcases hr with h | h <;> rw [h]; exact oi; exact ob
        have hI := bothI_at hi hib ja jb hza hzb (sa hza) (sb hzb)
        have hpl : SPlc [.rd 5 (hRows a), .str ST[k].n] = some ⟨.int .i64 (i : Int), []⟩ := by
          simp only [SPlc, hRows_parse]
          rw [if_pos ja.2, hn]
          unfold plcI
          rw [plc_at hza hi]
        have hc1 := cont_ok os oi
        have hc2 := cont_ok oa os
        have hc3 := cont_ok ob os
        have t1 : contR ST[k].r (bothI a b i) = true := by
          refine (cont_iff os oi).2 ?_
          rcases hr with h | h
          · rw [h]; exact leR.refl _
          · rw [h]; exact (int_sub oa ob).2
        have t2 : contR (a.getD i HD0).r ST[k].r = true ∨ contR (b.getD i HD0).r ST[k].r = true := by
          rcases hr with h | h
          · left; rw [h]; exact (cont_iff oa oi).2 (int_sub oa ob).1
          · right; rw [h]; exact contR_refl ob
        rw [t1] at hc1
        rw [hd_get hi] at hc2 t2
        rw [hd_get hib] at hc3 t2
        simp only [RS.cells] at hc1 hc2 hc3
        generalize bothI a b i = B at *
        refine W.seqE hT mixed M_f4 (by kernel_rfl) ?_
        simp [hlt]
        refine W.cut True [(0, .rd 5 (hRows a)), (1, .rd 5 (hRows b)), (5, .bool true), (6, .rd 4 (oRowsS ST)), (8, .int .i64 k)] [] 144 ?_ ?_
        · refine W.block ?_
          refine W.cut True [(0, .rd 5 (hRows a)), (1, .rd 5 (hRows b)), (5, .bool true), (6, .rd 4 (oRowsS ST)), (8, .int .i64 k), (9, .int .i64 (i : Int))] [] 144 ?_ ?_
          · refine W.of_WE hT mixed M_f4 _ (by kernel_rfl) ?_
            simp [hlt, SO.row, hpl]
          intro _
          refine W.seqE hT mixed M_f4 (by kernel_rfl) ?_
          simp [show ¬ ((i : Int) < 0) by omega]
          refine W.cut True [(0, .rd 5 (hRows a)), (1, .rd 5 (hRows b)), (5, .bool true), (6, .rd 4 (oRowsS ST)), (8, .int .i64 k), (9, .int .i64 (i : Int)), (10, .ptr 0 0), (11, .int .i64 0)] [.box 26 [.own 1, .own 2, .own 3], .sl 4 101 (sRows B.l4), .sl 4 101 (sRows B.l6), .sl 2 68 (aRows B.la)] 144 ?_ ?_
          · refine W.of_WE hT mixed M_f4 _ (by kernel_rfl) ?_
            simp [hi, hib, HD.row, hI]
          intro _
          refine W.wk (Wk.freeze 1 (.sl 4 101 (sRows B.l4)) (by simp) (by simp)) ?_
          refine W.wk (Wk.freeze 2 (.sl 4 101 (sRows B.l6)) (by simp) (by simp)) ?_
          refine W.wk (Wk.freeze 3 (.sl 2 68 (aRows B.la)) (by simp) (by simp)) ?_
          refine W.cut True [(0, .rd 5 (hRows a)), (1, .rd 5 (hRows b)), (5, .bool true), (6, .rd 4 (oRowsS ST)), (8, .int .i64 k), (9, .int .i64 (i : Int)), (11, .int .i64 0), (12, .bool true), (13, .int .i64 0)] [] 144 ?_ ?_
          · refine W.of_WE hT mixed M_f4 _ (by kernel_rfl) ?_
            simp [hlt, SO.row, hc1]
          intro _
          refine W.cut True [(0, .rd 5 (hRows a)), (1, .rd 5 (hRows b)), (5, .bool true), (6, .rd 4 (oRowsS ST)), (8, .int .i64 k), (9, .int .i64 (i : Int)), (11, .int .i64 0), (12, .bool true), (13, .int .i64 0), (14, .bool (contR a[i].r ST[k].r)), (15, .int .i64 0)] [] 144 ?_ ?_
          · refine W.of_WE hT mixed M_f4 _ (by kernel_rfl) ?_
            simp [hlt, hi, HD.row, SO.row, hc2]
          intro _
          refine W.cut True [(0, .rd 5 (hRows a)), (1, .rd 5 (hRows b)), (5, .bool true), (6, .rd 4 (oRowsS ST)), (8, .int .i64 k), (11, .int .i64 0), (12, .bool true), (13, .int .i64 0), (14, .bool (contR a[i].r ST[k].r)), (15, .int .i64 0), (16, .bool (contR b[i].r ST[k].r)), (17, .int .i64 0)] [] 144 ?_ ?_
          · refine W.of_WE hT mixed M_f4 _ (by kernel_rfl) ?_
            simp [hlt, hib, HD.row, SO.row, hc3]
          intro _
          refine W.of_WE hT mixed M_f4 _ (by kernel_rfl) ?_
          generalize contR a[i].r ST[k].r = X at *
          generalize contR b[i].r ST[k].r = Y at *
          cases X
          · cases Y
            · simp at t2
            · simp
          · simp
        intro _
        refine W.of_WE hT mixed M_f4 _ (by kernel_rfl) ?_
        simp [hw1]
      · have : k = ST.length := by omega
        subst this
        refine W.of_WE hT mixed M_f4 _ (by kernel_rfl) ?_
        simp
  intro _
  refine W.of_WE hT mixed M_f4 _ (by kernel_rfl) ?_
  simp

end Go.Proofs.Ytkcmgjagjbiinaa.AL
namespace Go.Proofs.Ytkcmgjagjbiinaa.AL
open Go
attribute [local simp] qf cv qbin ibin sbin qun retPost rvOk ctV ctPost marksOk retV resAll resOf V.lt ltL V.ren renL V.exp V.exp1 cleanL V.clean closedL V.closed V.cells V.one V.tree
  loadV cellsAt isNC nilQ isSlD isIfD slNew ownRows ownCells V.isOwn slStore srcO qlook mlook mget mstr zval qnone qmake mput lmap isAggD placesOf fillV putCells lstore bound seqParts V.sh shL Blk.sh newV V.ok peqs peq srcRows appOk mmV mmR hidE V.fz fzL Blk.fz fzOk and_assoc
attribute [-simp] Int.not_le Int.not_lt Nat.not_le Nat.not_lt
def M_f5 : Md := fun i => if i = 14 then some #[0, 0, 3, 7, 15, 0, 0, 96, 224, 480, 1023] else if i = 16 then some #[0, 0, 3, 7, 15, 0, 0, 96, 224, 480, 1023, 2047, 4095, 4095, 8191, 32767] else if i = 17 then some #[0, 0, 3, 7, 15, 0, 0, 96, 224, 480, 1023, 2047, 4095, 4095, 8191, 32767] else some #[]
@[simp] theorem M_f5_eq {i : Nat} : M_f5 i = (if i = 14 then some #[0, 0, 3, 7, 15, 0, 0, 96, 224, 480, 1023] else if i = 16 then some #[0, 0, 3, 7, 15, 0, 0, 96, 224, 480, 1023, 2047, 4095, 4095, 8191, 32767] else if i = 17 then some #[0, 0, 3, 7, 15, 0, 0, 96, 224, 480, 1023, 2047, 4095, 4095, 8191, 32767] else some #[]) := rfl
theorem shrinkFew_runs : ∀ As, ArgsV Try.prog Try.f5.params.toList [[.sl [.str, .str, .sl [.int .u64, .int .u64, .int .u64, .int .u64], .sl [.int .u64, .int .u64, .int .u64, .int .u64], .sl [.int .u32, .int .u32]]], [.sl [.str, .str, .sl [.int .u64, .int .u64, .int .u64, .int .u64], .sl [.int .u64, .int .u64, .int .u64, .int .u64], .sl [.int .u32, .int .u32]]]] As → Runs Try.prog 5 As ⟨.bool true, []⟩ := by
  intro As h
  obtain ⟨a, ia, b, ib, rfl⟩ : ∃ a : List HD, (∀ h ∈ a, inRS h.r) ∧ ∃ b : List HD, (∀ h ∈ b, inRS h.r) ∧ As = [.rd 5 (hRows a), .rd 5 (hRows b)] := by
    simp only [Try.f5, ArgsV] at h
    obtain ⟨_, _, V1, _, e1, rfl, h1, _, _, V2, _, e2, rfl, h2, rfl, rfl⟩ := h
    simp only [List.cons.injEq] at e1
    obtain ⟨rfl, rfl⟩ := e1
    simp only [List.cons.injEq] at e2
    obtain ⟨rfl, _⟩ := e2
    obtain ⟨a, rfl, ia⟩ := hl_of_shape h1
    obtain ⟨b, rfl, ib⟩ := hl_of_shape h2
    exact ⟨a, ia, b, ib, by simp [argV]⟩
  have gA := grL_at a
  have gB := grL_at b
  have ho := aliveS
  have hT : ((((T0.add 21 (oneS [] ⟨.bool true, []⟩)).add 10 SGrL).add 22 SPlan).add 25 SCont).ok Try.prog :=
    Tab.add_ok (Tab.add_ok (Tab.add_ok (Tab.add_ok (T0_ok _) (oneS_ok runs_law21_alive)) runs_ref21_Great) runs_shrink_Plan) runs_resource_Contains
  refine Runs.of_body Try.func5 (by decide) rfl (by simp [Try.f5]) ?_
  refine W.seqE hT mixed M_f5 (by kernel_rfl) ?_
  simp [Try.f5]
  refine W.cut True [(0, .rd 5 (hRows a)), (1, .rd 5 (hRows b)), (5, .bool true)] [] 123 ?_ ?_
  · refine W.of_WE hT mixed M_f5 _ (by kernel_rfl) ?_
    simp [ho]
  intro _
  cases ga : grtL a
  case true =>
    rw [ga] at gA
    refine W.of_WE hT mixed M_f5 _ (by kernel_rfl) ?_
    simp [gA]
  case false =>
  rw [ga] at gA
  cases gb : grtL b
  case true =>
    rw [gb] at gB
    refine W.of_WE hT mixed M_f5 _ (by kernel_rfl) ?_
    simp [gA, gB]
  case false =>
  rw [gb] at gB
  obtain ⟨ja, sa⟩ := dom_of ga ia
  obtain ⟨jb, sb⟩ := dom_of gb ib
  have hp := plan_at ja jb sa sb
  refine W.seqE hT mixed M_f5 (by kernel_rfl) ?_
  simp [gA, gB]
  by_cases hE : planE a b = 0
  case neg =>
    rw [if_pos hE] at hp
    refine W.cut True [(5, .bool true), (7, .int .i64 (planE a b))] [] 123 ?_ ?_
    · refine W.of_WE hT mixed M_f5 _ (by kernel_rfl) ?_
      simp [hp]
    intro _
    refine W.of_WE hT mixed M_f5 _ (by kernel_rfl) ?_
    simp [hE]
  case pos =>
  rw [if_neg (by simpa using hE)] at hp
  obtain ⟨hza, hzb, hsh, _, _⟩ := planE_0 hE
  have hleq := shp_len hsh
  obtain ⟨ST, hST⟩ : ∃ ST, ST = planS a b := ⟨_, rfl⟩
  have hcount : ∀ i, i < a.length → ST.countP (fun s => decide (s.n = (a.getD i HD0).n)) = (if sameR (a.getD i HD0).r (bothI a b i) = true then 0 else 1) + (if sameR (b.getD i HD0).r (bothI a b i) = true then 0 else 1) := fun i hi => by rw [hST]; exact plan_count hE hi
  rw [← hST] at hp
  have hSTl : ST.length ≤ 10000000 := by
    rw [hST]
    have h1 := foldS_len b (bothI a b) (resI b) (downL a false) ((downL a true).foldl (fun st i => addS st (a.getD i HD0) (bothI a b i) (bothI a b i)) [])
    have h2 := foldS_len a (bothI a b) (bothI a b) (downL a true) []
    have h3 := downL_len true ja.2
    have h4 := downL_len false ja.2
    simp only [List.length_nil] at h2
    exact Nat.le_trans h1 (by omega)
  refine W.cut True [(0, .rd 5 (hRows a)), (1, .rd 5 (hRows b)), (5, .bool true), (6, .rd 4 (oRowsS ST)), (7, .int .i64 0)] [] 123 ?_ ?_
  · refine W.of_WE hT mixed M_f5 _ (by kernel_rfl) ?_
    simp [hp]
  intro _
  refine W.seqE hT mixed M_f5 (by kernel_rfl) ?_
  simp [hleq]
  refine W.cut True [(5, .bool true)] [] 123 ?_ ?_
  · refine W.seqE hT mixed M_f5 (by kernel_rfl) ?_
    simp
    refine W.block (W.for (fun _ => True) (fun i => [(0, .rd 5 (hRows a)), (1, .rd 5 (hRows b)), (5, .bool true), (6, .rd 4 (oRowsS ST)), (8, .int .i64 i)]) (fun _ => []) 123 a.length trivial ?_ ?_)
    · simp
    · intro i hil _
      by_cases hi : i < a.length
      · have hw1 : IntKind.i64.wrap ((i : Int) + 1) = i + 1 := wr_i64 (by have := ja.2; omega) (by have := ja.2; omega)
        obtain ⟨_, hib, oa, ob, la, lb, oi⟩ := two_of ja jb sa sb hE hi
        have hcn := hcount i hi
        rw [show bothI a b i = intR (a.getD i HD0).r (b.getD i HD0).r from rfl, same_int_a oa ob la lb, same_int_b oa ob la lb] at hcn
        have hc1 := cont_ok oa ob
        have hc2 := cont_ok ob oa
        rw [hd_get hi] at hc1 hc2 hcn
        rw [hd_get hib] at hc1 hc2 hcn
        simp only [RS.cells] at hc1 hc2
        refine W.seqE hT mixed M_f5 (by kernel_rfl) ?_
        simp [hi]
        refine W.cut True [(0, .rd 5 (hRows a)), (1, .rd 5 (hRows b)), (5, .bool true), (6, .rd 4 (oRowsS ST)), (8, .int .i64 i)] [] 123 ?_ ?_
        · refine W.block ?_
          refine W.seqE hT mixed M_f5 (by kernel_rfl) ?_
          simp
          refine W.cut True [(0, .rd 5 (hRows a)), (1, .rd 5 (hRows b)), (5, .bool true), (6, .rd 4 (oRowsS ST)), (8, .int .i64 i), (9, .int .i64 ((ST.countP (fun s => decide (s.n = a[i].n)) : Nat) : Int))] [] 123 ?_ ?_
          · refine W.seqE hT mixed M_f5 (by kernel_rfl) ?_
            simp
            refine W.block (W.for (fun _ => True) (fun k => [(0, .rd 5 (hRows a)), (1, .rd 5 (hRows b)), (5, .bool true), (6, .rd 4 (oRowsS ST)), (8, .int .i64 i), (9, .int .i64 (((ST.take k).countP (fun s => decide (s.n = a[i].n)) : Nat) : Int)), (10, .int .i64 k)]) (fun _ => []) 123 ST.length trivial ?_ ?_)
            · simp
            · intro k hk _
              refine W.of_WE hT mixed M_f5 _ (by kernel_rfl) ?_
              by_cases hlt : k < ST.length
              · have hw2 : IntKind.i64.wrap ((k : Int) + 1) = k + 1 := wr_i64 (by omega) (by omega)
                have hcl : (ST.take k).countP (fun s => decide (s.n = a[i].n)) ≤ k := Nat.le_trans List.countP_le_length (by simp; omega)
                have hsn : (ST.take (k + 1)).countP (fun s => decide (s.n = a[i].n)) = (ST.take k).countP (fun s => decide (s.n = a[i].n)) + if ST[k].n = a[i].n then 1 else 0 := by
                  rw [take_snoc' ST k hlt, List.countP_append]
                  by_cases h : ST[k].n = a[i].n <;> simp [h]
                rw [hsn]
                generalize (ST.take k).countP (fun s => decide (s.n = a[i].n)) = C at *
                have hw3 : IntKind.i64.wrap ((C : Int) + 1) = C + 1 := wr_i64 (by omega) (by omega)
                by_cases h : ST[k].n = a[i].n
                · have h' : ST[k].n.toList = a[i].n.toList := by rw [h]
                  rw [if_pos h]
                  simp [hlt, hi, SO.row, HD.row, h', hw2, hw3]
                · have h' : ¬ ST[k].n.toList = a[i].n.toList := fun e => h (bytes_ext e)
                  rw [if_neg h]
                  simp [hlt, hi, SO.row, HD.row, h', hw2, hw3]
              · have : k = ST.length := by omega
                subst this
                rw [List.take_length]
                simp
          intro _
          rw [hcn]
          refine W.cut True [(0, .rd 5 (hRows a)), (1, .rd 5 (hRows b)), (5, .bool true), (6, .rd 4 (oRowsS ST)), (8, .int .i64 i), (9, .int .i64 (((if contR b[i].r a[i].r = true then 0 else 1) + (if contR a[i].r b[i].r = true then 0 else 1) : Nat) : Int)), (11, .bool (contR a[i].r b[i].r)), (12, .int .i64 0)] [] 123 ?_ ?_
          · refine W.of_WE hT mixed M_f5 _ (by kernel_rfl) ?_
            simp [hi, hib, HD.row, hc1]
          intro _
          refine W.cut True [(0, .rd 5 (hRows a)), (1, .rd 5 (hRows b)), (5, .bool true), (6, .rd 4 (oRowsS ST)), (8, .int .i64 i), (9, .int .i64 (((if contR b[i].r a[i].r = true then 0 else 1) + (if contR a[i].r b[i].r = true then 0 else 1) : Nat) : Int)), (11, .bool (contR a[i].r b[i].r)), (12, .int .i64 0), (13, .bool (contR b[i].r a[i].r)), (14, .int .i64 0)] [] 123 ?_ ?_
          · refine W.of_WE hT mixed M_f5 _ (by kernel_rfl) ?_
            simp [hi, hib, HD.row, hc2]
          intro _
          clear hc1 hc2 hcn hcount
          generalize contR a[i].r b[i].r = X at *
          generalize contR b[i].r a[i].r = Y at *
          refine W.of_WE hT mixed M_f5 _ (by kernel_rfl) ?_
          cases X <;> cases Y <;> simp
        intro _
        refine W.of_WE hT mixed M_f5 _ (by kernel_rfl) ?_
        simp [hw1]
      · have : i = a.length := by omega
        subst this
        refine W.of_WE hT mixed M_f5 _ (by kernel_rfl) ?_
        simp
  intro _
  refine W.of_WE hT mixed M_f5 _ (by kernel_rfl) ?_
  simp

end Go.Proofs.Ytkcmgjagjbiinaa.AL
