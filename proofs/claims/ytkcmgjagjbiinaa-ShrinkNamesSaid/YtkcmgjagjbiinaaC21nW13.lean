import Derived.Test.YtkcmgjagjbiinaaC21nW12
/- What single functions compute: a part of the proof; no conditions. -/
set_option linter.unusedVariables false
set_option linter.unusedSimpArgs false
set_option maxRecDepth 100000
set_option linter.unusedSectionVars false
namespace Go.Proofs.Ytkcmgjagjbiinaa.AL
open Go
attribute [local simp] qf cv qbin ibin sbin qun retPost rvOk ctV ctPost marksOk retV resAll resOf V.lt ltL V.ren renL V.exp V.exp1 cleanL V.clean closedL V.closed V.cells V.one V.tree
  loadV cellsAt isNC nilQ isSlD isIfD slNew ownRows ownCells V.isOwn slStore srcO qlook mlook mget mstr zval qnone qmake mput lmap isAggD placesOf fillV putCells lstore bound seqParts V.sh shL Blk.sh newV V.ok peqs peq srcRows qbytes byteSl appOk mmV mmR hidE V.fz fzL Blk.fz fzOk and_assoc
attribute [-simp] Int.not_le Int.not_lt Nat.not_le Nat.not_lt
theorem hs_of_shape : ∀ {rows : List (List V)}, (∀ r ∈ rows, LSh [.str, .str, .sl [.int .u64, .int .u64, .int .u64, .int .u64], .sl [.int .u64, .int .u64, .int .u64, .int .u64], .sl [.int .u32, .int .u32]] r) → ∃ l : List HD, rows = hRows l ∧ ∀ h ∈ l, inRS h.r
  | [], _ => ⟨[], rfl, by simp⟩
  | r :: rows, h => by
    have h1 := h r List.mem_cons_self
    obtain ⟨l, rfl, hl⟩ := hs_of_shape (rows := rows) fun q hq => h q (List.mem_cons_of_mem _ hq)
    obtain ⟨n, p, vs, rfl, h2⟩ : ∃ n p vs, r = .str n :: .str p :: vs ∧ LSh [.sl [.int .u64, .int .u64, .int .u64, .int .u64], .sl [.int .u64, .int .u64, .int .u64, .int .u64], .sl [.int .u32, .int .u32]] vs := by
      unfold LSh at h1
      obtain ⟨_, _, rfl, h3, h1⟩ := h1
      unfold LSh at h1
      obtain ⟨_, _, rfl, h4, h1⟩ := h1
      simp only [VSh] at h3 h4
      obtain ⟨n, rfl, _⟩ := h3
      obtain ⟨p, rfl, _⟩ := h4
      exact ⟨n, p, _, rfl, h1⟩
    obtain ⟨q, rfl, hq⟩ := rs_of_shape h2
    refine ⟨⟨n, p, q⟩ :: l, rfl, fun x hx => ?_⟩
    rcases List.mem_cons.1 hx with rfl | hx
    · exact hq
    · exact hl x hx
theorem hl_of_shape {vs : List V} (h : LSh [.sl [.str, .str, .sl [.int .u64, .int .u64, .int .u64, .int .u64], .sl [.int .u64, .int .u64, .int .u64, .int .u64], .sl [.int .u32, .int .u32]]] vs) : ∃ l : List HD, vs = [.rd 5 (hRows l)] ∧ ∀ h ∈ l, inRS h.r := by
  unfold LSh at h
  obtain ⟨v, vs', rfl, h1, h2⟩ := h
  unfold VSh at h1
  obtain ⟨rows, rfl, _, hrows⟩ := h1
  obtain ⟨l, rfl, hl⟩ := hs_of_shape hrows
  unfold LSh at h2
  subst h2
  exact ⟨l, by simp [shLen], hl⟩
theorem dom_of {l : List HD} (hg : grtL l = false) (hi : ∀ h ∈ l, inRS h.r) : inL l ∧ (chkT l = 0 → small l) := by
  unfold grtL at hg
  rw [Bool.or_eq_false_iff, decide_eq_false_iff_not, List.any_eq_false] at hg
  have key : ∀ h ∈ l, h.n.size ≤ 100 ∧ h.p.size ≤ 100 ∧ grt h.r.l4.length = false ∧ grt h.r.l6.length = false ∧ grt h.r.la.length = false := by
    intro h hm
    have := hg.2 h hm
    unfold grtH at this
    simp only [Bool.not_eq_true, Bool.or_eq_false_iff, decide_eq_false_iff_not] at this
    exact ⟨by omega, by omega, this.2.1.1, this.2.1.2, this.2.2⟩
  refine ⟨⟨fun h hm => ?_, by omega⟩, fun hc h hm => ?_⟩
  · obtain ⟨k1, k2, k3, k4, k5⟩ := key h hm
    exact ⟨by omega, by omega, hi h hm, ⟨by have := grt_len k3; omega, by have := grt_len k4; omega, by have := grt_len k5; omega⟩⟩
  · obtain ⟨i, hil, rfl⟩ := List.getElem_of_mem hm
    obtain ⟨k1, k2, k3, k4, k5⟩ := key l[i] hm
    have hr := (chkT_R hc i hil).2
    rw [hd_get hil] at hr
    have hl := chkR_len hr
    have f : ∀ n, grt n = false → n ≤ 200 → n ≤ 100 := by
      intro n h1 h2
      unfold grt at h1
      simp at h1
      omega
    exact ⟨f _ k3 hl.1, f _ k4 hl.2.1, f _ k5 hl.2.2⟩
theorem grL_at (l : List HD) : SGrL [.rd 5 (hRows l)] = some ⟨.bool (grtL l), []⟩ := by simp only [SGrL, hRows_parse]
theorem len1M {r : RS} {n : Nat} (h : lenRS n r) (hn : n ≤ 1000000) : lenRS 1000000 r := ⟨by have := h.1; omega, by have := h.2.1; omega, by have := h.2.2; omega⟩
theorem okR_len {r : RS} (h : okR r) : lenRS 1000000 r := len1M (chkR_len h.c) (by omega)
theorem cont_ok {a b : RS} (ha : okR a) (hb : okR b) : SCont [.agg a.cells, .agg b.cells] = some ⟨.tup [.bool (contR a b), .int .i64 0], []⟩ := by
  have := cont_at ha.i hb.i (okR_len ha) (okR_len hb)
  rw [ha.c, hb.c] at this
  simpa [orE2] using this
theorem aliveS : oneS [] ⟨.bool true, []⟩ [] = some ⟨.bool true, []⟩ := oneS_self
/-- What is known of one index of two trees between which there is a plan. -/
structure Two (a b : List HD) (i : Nat) : Prop where
  ha : i < a.length
  hb : i < b.length
  oa : okR (a.getD i HD0).r
  ob : okR (b.getD i HD0).r
  la : lenRS 100 (a.getD i HD0).r
  lb : lenRS 100 (b.getD i HD0).r
  oi : okR (bothI a b i)
theorem two_of {a b : List HD} {i : Nat} (ia : inL a) (ib : inL b) (sa : chkT a = 0 → small a) (sb : chkT b = 0 → small b) (hE : planE a b = 0) (hi : i < a.length) : Two a b i := by
  obtain ⟨ha, hb, hs, _, _⟩ := planE_0 hE
  have hib : i < b.length := by have := shp_len hs; omega
  have la : lenRS 100 (a.getD i HD0).r := by rw [hd_get hi]; exact sa ha _ (List.getElem_mem hi)
  have lb : lenRS 100 (b.getD i HD0).r := by rw [hd_get hib]; exact sb hb _ (List.getElem_mem hib)
  exact ⟨hi, hib, okT ia ha hi, okT ib hb hib, la, lb, okR_int (okT ia ha hi) (okT ib hb hib) la lb⟩
theorem contR_refl {a : RS} (ha : okR a) : contR a a = true := (cont_iff ha ha).2 (leR.refl a)
def M_f4 : Md := fun i => if i = 13 then some #[0, 0, 3, 7, 15, 0, 0, 96, 224, 480, 1023, 2047, 4095, 4095, 0, 24575, 65535] else if i = 14 then some #[0, 0, 3, 7, 15, 0, 63, 127, 255, 255, 511, 2047] else if i = 15 then some #[0, 0, 3, 7, 15, 0, 0, 96, 224, 480, 1023, 2047, 4095, 4095, 8191, 32767] else if i = 16 then some #[0, 0, 3, 7, 15, 0, 0, 96, 224, 480, 1023, 2047, 4095, 4095, 8191, 32767] else some #[]
@[simp] theorem M_f4_eq {i : Nat} : M_f4 i = (if i = 13 then some #[0, 0, 3, 7, 15, 0, 0, 96, 224, 480, 1023, 2047, 4095, 4095, 0, 24575, 65535] else if i = 14 then some #[0, 0, 3, 7, 15, 0, 63, 127, 255, 255, 511, 2047] else if i = 15 then some #[0, 0, 3, 7, 15, 0, 0, 96, 224, 480, 1023, 2047, 4095, 4095, 8191, 32767] else if i = 16 then some #[0, 0, 3, 7, 15, 0, 0, 96, 224, 480, 1023, 2047, 4095, 4095, 8191, 32767] else some #[]) := rfl
theorem shrinkHolds_runs : ∀ As, ArgsV Try.prog Try.f4.params.toList [[.sl [.str, .str, .sl [.int .u64, .int .u64, .int .u64, .int .u64], .sl [.int .u64, .int .u64, .int .u64, .int .u64], .sl [.int .u32, .int .u32]]], [.sl [.str, .str, .sl [.int .u64, .int .u64, .int .u64, .int .u64], .sl [.int .u64, .int .u64, .int .u64, .int .u64], .sl [.int .u32, .int .u32]]]] As → Runs Try.prog 4 As ⟨.bool true, []⟩ := by
  intro As h
  obtain ⟨a, ia, b, ib, rfl⟩ : ∃ a : List HD, (∀ h ∈ a, inRS h.r) ∧ ∃ b : List HD, (∀ h ∈ b, inRS h.r) ∧ As = [.rd 5 (hRows a), .rd 5 (hRows b)] := by
    simp only [Try.f4, ArgsV] at h
    obtain ⟨_, _, V1, _, e1, rfl, h1, _, _, V2, _, e2, rfl, h2, rfl, rfl⟩ := h
    simp only [List.cons.injEq] at e1
    obtain ⟨rfl, rfl⟩ := e1
    simp only [List.cons.injEq] at e2
    obtain ⟨rfl, _⟩ := e2
    obtain ⟨a, rfl, ia⟩ := hl_of_shape h1
    obtain ⟨b, rfl, ib⟩ := hl_of_shape h2
    exact ⟨a, ia, b, ib, by simp [argV]⟩
  have gA := grL_at a
  have gB := grL_at b
  have ho := aliveS
  have hT : ((((((T0.add 21 (oneS [] ⟨.bool true, []⟩)).add 10 SGrL).add 22 SPlan).add 23 SPlc).add 24 SOInt).add 25 SCont).ok Try.prog :=
    Tab.add_ok (Tab.add_ok (Tab.add_ok (Tab.add_ok (Tab.add_ok (Tab.add_ok (T0_ok _) (oneS_ok runs_law21_alive)) runs_ref21_Great) runs_shrink_Plan) runs_ref21_Place) runs_resource_Int) runs_resource_Contains
  refine Runs.of_body Try.func4 (by decide) rfl (by simp [Try.f4]) ?_
  refine W.seqE hT mixed M_f4 (by kernel_rfl) ?_
  simp [Try.f4]
  refine W.cut True [(0, .rd 5 (hRows a)), (1, .rd 5 (hRows b)), (5, .bool true)] [] 144 ?_ ?_
  · refine W.of_WE hT mixed M_f4 _ (by kernel_rfl) ?_
    simp [ho]
  intro _
  cases ga : grtL a
  case true =>
    rw [ga] at gA
    refine W.of_WE hT mixed M_f4 _ (by kernel_rfl) ?_
    simp [gA]
  case false =>
  rw [ga] at gA
  cases gb : grtL b
  case true =>
    rw [gb] at gB
    refine W.of_WE hT mixed M_f4 _ (by kernel_rfl) ?_
    simp [gA, gB]
  case false =>
  rw [gb] at gB
  obtain ⟨ja, sa⟩ := dom_of ga ia
  obtain ⟨jb, sb⟩ := dom_of gb ib
  have hp := plan_at ja jb sa sb
  refine W.seqE hT mixed M_f4 (by kernel_rfl) ?_
  simp [gA, gB]
  by_cases hE : planE a b = 0
  case neg =>
    rw [if_pos hE] at hp
    refine W.cut True [(5, .bool true), (7, .int .i64 (planE a b))] [] 144 ?_ ?_
    · refine W.of_WE hT mixed M_f4 _ (by kernel_rfl) ?_
      simp [hp]
    intro _
    refine W.of_WE hT mixed M_f4 _ (by kernel_rfl) ?_
    simp [hE]
  case pos =>
  rw [if_neg (by simpa using hE)] at hp
  obtain ⟨hza, hzb, hsh, _, _⟩ := planE_0 hE
  have hleq := shp_len hsh
  obtain ⟨ST, hST⟩ : ∃ ST, ST = planS a b := ⟨_, rfl⟩
  have hstep : ∀ s ∈ ST, ∃ i, i < a.length ∧ s.n = (a.getD i HD0).n ∧ (s.r = bothI a b i ∨ s.r = resI b i) := fun s hs => plan_step hsh (by rw [← hST]; exact hs)
  rw [← hST] at hp
  have hSTl : ST.length ≤ 10000000 := by
    rw [hST]
    have h1 := foldS_len b (bothI a b) (resI b) (downL a false) ((downL a true).foldl (fun st i => addS st (a.getD i HD0) (bothI a b i) (bothI a b i)) [])
    have h2 := foldS_len a (bothI a b) (bothI a b) (downL a true) []
    have h3 := downL_len true ja.2
    have h4 := downL_len false ja.2
    simp only [List.length_nil] at h2
    exact Nat.le_trans h1 (by omega)
  refine W.cut True [(0, .rd 5 (hRows a)), (1, .rd 5 (hRows b)), (5, .bool true), (6, .rd 4 (oRowsS ST)), (7, .int .i64 0)] [] 144 ?_ ?_
  · refine W.of_WE hT mixed M_f4 _ (by kernel_rfl) ?_
    simp [hp]
  intro _
  refine W.seqE hT mixed M_f4 (by kernel_rfl) ?_
  simp [hleq]
  refine W.cut True [(5, .bool true)] [] 144 ?_ ?_
  · refine W.seqE hT mixed M_f4 (by kernel_rfl) ?_
    simp
    refine W.block (W.for (fun _ => True) (fun k => [(0, .rd 5 (hRows a)), (1, .rd 5 (hRows b)), (5, .bool true), (6, .rd 4 (oRowsS ST)), (8, .int .i64 k)]) (fun _ => []) 144 ST.length trivial ?_ ?_)
    · simp
    · intro k hk _
      by_cases hlt : k < ST.length
      · have hw1 : IntKind.i64.wrap ((k : Int) + 1) = k + 1 := wr_i64 (by omega) (by omega)
        obtain ⟨i, hi, hn, hr⟩ := hstep _ (List.getElem_mem hlt)
        obtain ⟨_, hib, oa, ob, la, lb, oi⟩ := two_of ja jb sa sb hE hi
        have hri : resI b i = (b.getD i HD0).r := rfl
        have os : okR ST[k].r := by rcases hr with h | h <;> rw [h]; exact oi; exact ob
        have hI := bothI_at hi hib ja jb hza hzb (sa hza) (sb hzb)
        have hpl : SPlc [.rd 5 (hRows a), .str ST[k].n] = some ⟨.int .i64 (i : Int), []⟩ := by
          simp only [SPlc, hRows_parse]
          rw [if_pos ja.2, hn]
          unfold plcI
          rw [plc_at hza hi]
        have hc1 := cont_ok os oi
        have hc2 := cont_ok oa os
        have hc3 := cont_ok ob os
        have t1 : contR ST[k].r (bothI a b i) = true := by
          refine (cont_iff os oi).2 ?_
          rcases hr with h | h
          · rw [h]; exact leR.refl _
          · rw [h]; exact (int_sub oa ob).2
        have t2 : contR (a.getD i HD0).r ST[k].r = true ∨ contR (b.getD i HD0).r ST[k].r = true := by
          rcases hr with h | h
          · left; rw [h]; exact (cont_iff oa oi).2 (int_sub oa ob).1
          · right; rw [h]; exact contR_refl ob
        rw [t1] at hc1
        rw [hd_get hi] at hc2 t2
        rw [hd_get hib] at hc3 t2
        simp only [RS.cells] at hc1 hc2 hc3
        generalize bothI a b i = B at *
        refine W.seqE hT mixed M_f4 (by kernel_rfl) ?_
        simp [hlt]
        refine W.cut True [(0, .rd 5 (hRows a)), (1, .rd 5 (hRows b)), (5, .bool true), (6, .rd 4 (oRowsS ST)), (8, .int .i64 k)] [] 144 ?_ ?_
        · refine W.block ?_
          refine W.cut True [(0, .rd 5 (hRows a)), (1, .rd 5 (hRows b)), (5, .bool true), (6, .rd 4 (oRowsS ST)), (8, .int .i64 k), (9, .int .i64 (i : Int))] [] 144 ?_ ?_
          · refine W.of_WE hT mixed M_f4 _ (by kernel_rfl) ?_
            simp [hlt, SO.row, hpl]
          intro _
          refine W.seqE hT mixed M_f4 (by kernel_rfl) ?_
          simp [show ¬ ((i : Int) < 0) by omega]
          refine W.cut True [(0, .rd 5 (hRows a)), (1, .rd 5 (hRows b)), (5, .bool true), (6, .rd 4 (oRowsS ST)), (8, .int .i64 k), (9, .int .i64 (i : Int)), (10, .ptr 0 0), (11, .int .i64 0)] [.box 26 [.own 1, .own 2, .own 3], .sl 4 101 (sRows B.l4), .sl 4 101 (sRows B.l6), .sl 2 68 (aRows B.la)] 144 ?_ ?_
          · refine W.of_WE hT mixed M_f4 _ (by kernel_rfl) ?_
            simp [hi, hib, HD.row, hI]
          intro _
          refine W.wk (Wk.freeze 1 (.sl 4 101 (sRows B.l4)) (by simp) (by simp)) ?_
          refine W.wk (Wk.freeze 2 (.sl 4 101 (sRows B.l6)) (by simp) (by simp)) ?_
          refine W.wk (Wk.freeze 3 (.sl 2 68 (aRows B.la)) (by simp) (by simp)) ?_
          refine W.cut True [(0, .rd 5 (hRows a)), (1, .rd 5 (hRows b)), (5, .bool true), (6, .rd 4 (oRowsS ST)), (8, .int .i64 k), (9, .int .i64 (i : Int)), (11, .int .i64 0), (12, .bool true), (13, .int .i64 0)] [] 144 ?_ ?_
          · refine W.of_WE hT mixed M_f4 _ (by kernel_rfl) ?_
            simp [hlt, SO.row, hc1]
          intro _
          refine W.cut True [(0, .rd 5 (hRows a)), (1, .rd 5 (hRows b)), (5, .bool true), (6, .rd 4 (oRowsS ST)), (8, .int .i64 k), (9, .int .i64 (i : Int)), (11, .int .i64 0), (12, .bool true), (13, .int .i64 0), (14, .bool (contR a[i].r ST[k].r)), (15, .int .i64 0)] [] 144 ?_ ?_
          · refine W.of_WE hT mixed M_f4 _ (by kernel_rfl) ?_
            simp [hlt, hi, HD.row, SO.row, hc2]
          intro _
          refine W.cut True [(0, .rd 5 (hRows a)), (1, .rd 5 (hRows b)), (5, .bool true), (6, .rd 4 (oRowsS ST)), (8, .int .i64 k), (11, .int .i64 0), (12, .bool true), (13, .int .i64 0), (14, .bool (contR a[i].r ST[k].r)), (15, .int .i64 0), (16, .bool (contR b[i].r ST[k].r)), (17, .int .i64 0)] [] 144 ?_ ?_
          · refine W.of_WE hT mixed M_f4 _ (by kernel_rfl) ?_
            simp [hlt, hib, HD.row, SO.row, hc3]
          intro _
          refine W.of_WE hT mixed M_f4 _ (by kernel_rfl) ?_
          generalize contR a[i].r ST[k].r = X at *
          generalize contR b[i].r ST[k].r = Y at *
          cases X
          · cases Y
            · simp at t2
            · simp
          · simp
        intro _
        refine W.of_WE hT mixed M_f4 _ (by kernel_rfl) ?_
        simp [hw1]
      · have : k = ST.length := by omega
        subst this
        refine W.of_WE hT mixed M_f4 _ (by kernel_rfl) ?_
        simp
  intro _
  refine W.of_WE hT mixed M_f4 _ (by kernel_rfl) ?_
  simp

end Go.Proofs.Ytkcmgjagjbiinaa.AL
namespace Go.Proofs.Ytkcmgjagjbiinaa.AL
open Go
/-! Plans are sound at each step. -/
/-- The tree of this shape with these resources. -/
def trX (a : List HD) (R : Nat → RS) : List HD := (List.range a.length).map fun i => ⟨(a.getD i HD0).n, (a.getD i HD0).p, R i⟩
@[simp] theorem trX_len (a : List HD) (R : Nat → RS) : (trX a R).length = a.length := by simp [trX]
theorem trX_get {a : List HD} {R : Nat → RS} {i : Nat} (h : i < a.length) : (trX a R).getD i HD0 = ⟨(a.getD i HD0).n, (a.getD i HD0).p, R i⟩ := by
  rw [hd_get (by rw [trX_len]; exact h)]
  simp [trX]
theorem trX_self (a : List HD) : trX a (fun i => (a.getD i HD0).r) = a := by
  refine List.ext_getElem (by simp) fun i h1 h2 => ?_
  simp only [trX, List.getElem_map, List.getElem_range]
  rw [hd_get h2]
theorem trX_congr {a : List HD} {R S : Nat → RS} (h : ∀ i, i < a.length → R i = S i) : trX a R = trX a S := by
  unfold trX
  refine List.map_congr_left fun i hi => ?_
  rw [h i (List.mem_range.1 hi)]
theorem trX_nms (a : List HD) (R : Nat → RS) : nmsL (trX a R) = nmsL a := by
  refine List.ext_getElem (by simp) fun i h1 h2 => ?_
  have : i < a.length := by simpa using h2
  simp only [nmsL, trX, List.getElem_map, List.getElem_range]
  rw [hd_get this]
theorem dep_trX (a : List HD) (R : Nat → RS) : ∀ (f : Nat) (p : ByteArray), dep (trX a R) f p = dep a f p
  | 0, p => by simp [dep]
  | f + 1, p => by
    simp only [dep, trX_nms]
    split
    · rfl
    · cases hp : plc (nmsL a) p with
      | none => rfl
      | some i =>
        simp only
        rw [trX_get (plc_lt hp), dep_trX a R f]
theorem depN_trX (a : List HD) (R : Nat → RS) {i : Nat} (h : i < a.length) : depN (trX a R) i = depN a i := by
  unfold depN
  rw [trX_len, trX_get h, dep_trX]
theorem chkT_trX {a : List HD} {R : Nat → RS} (h : chkT a = 0) (hR : ∀ i, i < a.length → chkR (R i) = 0) : chkT (trX a R) = 0 := by
  refine chkT_of (by rw [trX_len]; exact chkT_len h) (fun i hi => ?_) (fun i hi => ?_)
  · rw [trX_len] at hi
    have h1 := chkT_N h i hi
    unfold okN at h1 ⊢
    rw [trX_get hi, trX_get (show i - 1 < a.length by omega), hR i hi]
    simp only [Bool.and_eq_true, decide_eq_true_eq] at h1 ⊢
    exact ⟨h1.1, trivial, h1.2.2⟩
  · rw [trX_len] at hi
    unfold okD
    rw [trX_len, trX_get hi, dep_trX, chkT_D h hi]; rfl
theorem setR_trX {a : List HD} {R : Nat → RS} {i : Nat} {r : RS} (h : i < a.length) : setR (trX a R) i r = trX a (upd R i r) := by
  unfold setR
  rw [trX_get h]
  refine List.ext_getElem (by simp) fun j h1 h2 => ?_
  have hj : j < a.length := by simpa using h2
  rw [List.getElem_set]
  by_cases e : i = j
  · subst e
    simp [trX, upd]
  · rw [if_neg e]
    simp only [trX, List.getElem_map, List.getElem_range, upd]
    rw [if_neg (fun x => e x.symm)]
/-- Each holder has at most what its parent has. -/
def sndX (a : List HD) (R : Nat → RS) : Prop := ∀ i j, i < a.length → plc (nmsL a) (a.getD i HD0).p = some j → leR (R i) (R j)
theorem excH_le {p h : HD} (hp : okR p.r) (hh : okR h.r) (hl : leR h.r p.r) : excH p h = false := by
  unfold excH
  rw [hp.c, hh.c, (cont_iff hp hh).2 hl]
  rfl
theorem excH_ge {p h : HD} (hp : okR p.r) (hh : okR h.r) (hl : excH p h = false) : leR h.r p.r := by
  unfold excH at hl
  rw [Bool.or_eq_false_iff] at hl
  exact (cont_iff hp hh).1 (by simpa using hl.2)
theorem excT_trX {a : List HD} {R : Nat → RS} {d : List (List V)} (hR : ∀ i, i < a.length → okR (R i)) (hs : sndX a R) {i : Nat} (hi : i < a.length) :
    excT ⟨trX a R, nmsL a, d⟩ ((trX a R).getD i HD0) = false := by
  unfold excT parT
  simp only
  rw [trX_get hi]
  simp only
  cases hp : plc (nmsL a) (a.getD i HD0).p with
  | none => rfl
  | some j =>
    have hj := plc_lt hp
    simp only
    rw [trX_get hj]
    exact excH_le (hR j hj) (hR i hi) (hs i j hi hp)
theorem any_trX {a : List HD} {R : Nat → RS} {f : HD → Bool} (h : ∀ i, i < a.length → f ((trX a R).getD i HD0) = false) : (trX a R).any f = false := by
  rw [List.any_eq_false]
  intro x hx
  obtain ⟨i, hi, rfl⟩ := List.getElem_of_mem hx
  have hi' : i < a.length := by simpa using hi
  have := h i hi'
  rw [hd_get hi] at this
  rw [this]; simp
/-- A step that leaves the tree sound can be done. -/
theorem appT_trX {a : List HD} {R : Nat → RS} {i : Nat} {r : RS} (hc : chkT a = 0) (hi : i < a.length) (hR : ∀ i, i < a.length → okR (R i)) (hr : okR r) (hs : sndX a (upd R i r)) :
    appT (trX a R) (a.getD i HD0).n r = .ok (trX a (upd R i r)) := by
  have hR' : ∀ j, j < a.length → okR (upd R i r j) := fun j hj => by unfold upd; split; exact hr; exact hR j hj
  unfold appT
  rw [if_neg (by rw [chkT_trX hc fun i hi => (hR i hi).c]; simp), if_neg (by rw [hr.c]; simp), trX_nms, plc_at hc hi]
  simp only
  rw [setR_trX hi, excT_trX hR' hs hi, any_trX (fun j hj => by rw [excT_trX hR' hs hj, Bool.and_false])]
  simp
theorem excL_trX {a : List HD} {R : Nat → RS} (hR : ∀ i, i < a.length → okR (R i)) (hs : sndX a R) : excL (trX a R) = [] := by
  unfold excL trL
  rw [List.filter_eq_nil_iff]
  intro x hx
  obtain ⟨i, hi, rfl⟩ := List.getElem_of_mem hx
  have hi' : i < a.length := by simpa using hi
  have := excT_trX (d := depRows (trX a R) (trX a R).length) hR hs hi'
  rw [hd_get hi] at this
  rw [trX_nms, this]; simp
theorem sameR_eq {a b : RS} (h : sameR a b = true) : a = b := by
  unfold sameR at h
  simp only [Bool.and_eq_true, decide_eq_true_eq] at h
  cases a; cases b
  simp only at h
  simp [h.1.1, h.1.2, h.2]
/-- Resources of the first half: who has had its turn has both. -/
def R1 (a b : List HD) (P : List Nat) (i : Nat) : RS := if i ∈ P then bothI a b i else (a.getD i HD0).r
def R2 (a b : List HD) (P : List Nat) (i : Nat) : RS := if i ∈ P then (b.getD i HD0).r else bothI a b i
/-- Whose turn comes before: by depth. -/
theorem preD_mem {l : List HD} (h : chkT l = 0) {up : Bool} {i : Nat} (hi : i < l.length) {k : Nat} (hk : k ≤ l.length) : i ∈ preD l up k ↔ (if up = true then l.length - 1 - depN l i else depN l i) < k := by
  rw [← List.count_pos_iff, preD_count h (up := up) hi k hk]
  by_cases g : (if up = true then l.length - 1 - depN l i else depN l i) < k
  · rw [if_pos g]; exact ⟨fun _ => g, fun _ => by omega⟩
  · rw [if_neg g]; exact ⟨fun x => by omega, fun x => absurd x g⟩
theorem downL_nodup {l : List HD} (h : chkT l = 0) (up : Bool) : (downL l up).Nodup := by
  rw [List.nodup_iff_count]
  intro i
  by_cases hi : i ∈ downL l up
  · rw [down_count h (down_lt hi)]; exact Nat.le_refl _
  · rw [List.count_eq_zero.2 hi]; omega
theorem down_mem {l : List HD} (h : chkT l = 0) {up : Bool} {i : Nat} (hi : i < l.length) : i ∈ downL l up := by
  rw [← List.count_pos_iff, down_count h hi]; omega
/-- The depth of a child is greater by 1. -/
theorem dep_child {l : List HD} (h : chkT l = 0) {i j : Nat} (hi : i < l.length) (hp : plc (nmsL l) (l.getD i HD0).p = some j) : depN l i = depN l j + 1 := by
  have h1 := chkT_D h hi
  have hj := plc_lt hp
  have h2 := chkT_D h hj
  have hne : (l.getD i HD0).p ≠ .empty := by
    intro e
    obtain ⟨hj', e2, _⟩ := plc_some hp
    have hn := (chkT_R h j hj).1
    have : (l.getD j HD0).n = (l.getD i HD0).p := by rw [hd_get hj, ← e2]; simp [nmsL]
    rw [this, e] at hn
    exact absurd hn (by decide)
  rw [dep_step hne hp] at h1
  cases hd : dep l l.length (l.getD j HD0).p with
  | none => rw [hd] at h1; cases h1
  | some d =>
    rw [hd] at h1
    simp only [Option.map_some, Option.some.injEq] at h1
    have := dep_uniq hd h2
    omega

def rkD (l : List HD) (up : Bool) (i : Nat) : Nat := if up = true then l.length - 1 - depN l i else depN l i
theorem selD_rk {l : List HD} (h : chkT l = 0) {up : Bool} {k i : Nat} (hk : k < l.length) (hm : i ∈ selD l up k l.length) : rkD l up i = k := by
  unfold selD at hm
  obtain ⟨h1, h2⟩ := List.mem_filter.1 hm
  have hi := List.mem_range.1 h1
  have hd := depN_lt h hi
  simp only [decide_eq_true_eq] at h2
  unfold rndD at h2
  unfold rkD
  cases up
  · simpa using h2
  · simp only [if_true] at h2 ⊢
    omega
theorem preD_pw {l : List HD} (h : chkT l = 0) (up : Bool) : ∀ k, k ≤ l.length → (preD l up k).Pairwise fun x y => rkD l up x ≤ rkD l up y
  | 0, _ => by simp [preD]
  | k + 1, hk => by
    rw [preD_succ, List.pairwise_append]
    refine ⟨preD_pw h up k (by omega), ?_, ?_⟩
    · refine List.Pairwise.imp_of_mem (R := fun _ _ => True) (fun {x y} hx hy _ => ?_) (List.pairwise_of_forall fun _ _ => trivial)
      rw [selD_rk h (by omega) hx, selD_rk h (by omega) hy]; exact Nat.le_refl _
    · intro x hx y hy
      rw [selD_rk h (by omega) hy]
      have hxl : x < l.length := by
        unfold preD at hx
        obtain ⟨z, _, hz⟩ := List.mem_flatMap.1 hx
        unfold selD at hz
        exact List.mem_range.1 (List.mem_filter.1 hz).1
      have := (preD_mem h hxl (by omega)).1 hx
      unfold rkD; omega
theorem take_rk {l : List HD} (h : chkT l = 0) {up : Bool} {m i j : Nat} (hj : j ∈ (downL l up).take m) (hi : i < l.length) (hn : i ∉ (downL l up).take m) : rkD l up j ≤ rkD l up i := by
  have h1 := preD_pw h up l.length (Nat.le_refl _)
  have h2 : i ∈ (downL l up).drop m := by
    have := down_mem h (up := up) hi
    rw [← List.take_append_drop m (downL l up), List.mem_append] at this
    exact this.resolve_left hn
  have h3 : (downL l up).Pairwise fun x y => rkD l up x ≤ rkD l up y := h1
  rw [← List.take_append_drop m (downL l up), List.pairwise_append] at h3
  exact h3.2.2 j hj i h2
theorem nms_eq {a b : List HD} (h : shpB a b = true) : nmsL a = nmsL b := by
  refine List.ext_getElem (by simp [shp_len h]) fun i h1 h2 => ?_
  have hi : i < a.length := by simpa using h1
  have hb : i < b.length := by simpa using h2
  have := (shp_np h hi).1
  rw [hd_get hi, hd_get hb] at this
  simpa [nmsL] using this
theorem noexc {l : List HD} (hl : inL l) (hc : chkT l = 0) (h : l.any (excT (trL l)) = false) {i j : Nat} (hi : i < l.length) (hp : plc (nmsL l) (l.getD i HD0).p = some j) : leR (l.getD i HD0).r (l.getD j HD0).r := by
  rw [List.any_eq_false] at h
  have h1 := h l[i] (List.getElem_mem hi)
  have hj := plc_lt hp
  unfold excT parT trL at h1
  simp only at h1
  rw [hd_get hi] at hp
  rw [hp] at h1
  simp only [Bool.not_eq_true] at h1
  have := excH_ge (okT hl hc hj) (by rw [← hd_get hi]; exact okT hl hc hi) h1
  rw [hd_get hi]; exact this
/-- All that is known of two trees between which there is a plan. -/
structure PL (a b : List HD) : Prop where
  ia : inL a
  ib : inL b
  sa : chkT a = 0 → small a
  sb : chkT b = 0 → small b
  hE : planE a b = 0
section
variable {a b : List HD} (H : PL a b)
include H
theorem PL.ca : chkT a = 0 := (planE_0 H.hE).1
theorem PL.cb : chkT b = 0 := (planE_0 H.hE).2.1
theorem PL.sh : shpB a b = true := (planE_0 H.hE).2.2.1
theorem PL.two {i : Nat} (hi : i < a.length) : Two a b i := two_of H.ia H.ib H.sa H.sb H.hE hi
theorem PL.pa {i j : Nat} (hi : i < a.length) (hp : plc (nmsL a) (a.getD i HD0).p = some j) : leR (a.getD i HD0).r (a.getD j HD0).r := noexc H.ia H.ca (planE_0 H.hE).2.2.2.1 hi hp
theorem PL.pb {i j : Nat} (hi : i < a.length) (hp : plc (nmsL a) (a.getD i HD0).p = some j) : leR (b.getD i HD0).r (b.getD j HD0).r := by
  refine noexc H.ib H.cb (planE_0 H.hE).2.2.2.2 (by have := shp_len H.sh; omega) ?_
  rw [← nms_eq H.sh, ← (shp_np H.sh hi).2]; exact hp
theorem PL.iA {i : Nat} (hi : i < a.length) : leR (bothI a b i) (a.getD i HD0).r := (int_sub (H.two hi).oa (H.two hi).ob).1
theorem PL.iB {i : Nat} (hi : i < a.length) : leR (bothI a b i) (b.getD i HD0).r := (int_sub (H.two hi).oa (H.two hi).ob).2
theorem PL.ii {i j : Nat} (hi : i < a.length) (hp : plc (nmsL a) (a.getD i HD0).p = some j) : leR (bothI a b i) (bothI a b j) :=
  int_great (H.two (plc_lt hp)).oa (H.two (plc_lt hp)).ob ((H.iA hi).trans (H.pa hi hp)) ((H.iB hi).trans (H.pb hi hp))
theorem PL.snd1 (m : Nat) : sndX a (R1 a b ((downL a true).take m)) := by
  intro i j hi hp
  have hj := plc_lt hp
  have hd := dep_child H.ca hi hp
  have d1 := depN_lt H.ca hi
  unfold R1
  by_cases h1 : i ∈ (downL a true).take m
  · rw [if_pos h1]
    by_cases h2 : j ∈ (downL a true).take m
    · rw [if_pos h2]; exact H.ii hi hp
    · rw [if_neg h2]; exact (H.iA hi).trans (H.pa hi hp)
  · rw [if_neg h1]
    by_cases h2 : j ∈ (downL a true).take m
    · have := take_rk H.ca h2 hi h1
      unfold rkD at this
      simp only [if_true] at this
      omega
    · rw [if_neg h2]; exact H.pa hi hp
theorem PL.snd2 (m : Nat) : sndX a (R2 a b ((downL a false).take m)) := by
  intro i j hi hp
  have hj := plc_lt hp
  have hd := dep_child H.ca hi hp
  unfold R2
  by_cases h1 : i ∈ (downL a false).take m
  · rw [if_pos h1]
    by_cases h2 : j ∈ (downL a false).take m
    · rw [if_pos h2]; exact H.pb hi hp
    · have := take_rk H.ca h1 hj h2
      unfold rkD at this
      simp at this
      omega
  · rw [if_neg h1]
    by_cases h2 : j ∈ (downL a false).take m
    · rw [if_pos h2]; exact (H.iB hi).trans (H.pb hi hp)
    · rw [if_neg h2]; exact H.ii hi hp
end
theorem filter_take {α : Type} (p : α → Bool) : ∀ (L : List α) (k : Nat), ∃ m, (L.filter p).take k = (L.take m).filter p
  | [], k => ⟨0, by simp⟩
  | x :: L, 0 => ⟨0, by simp⟩
  | x :: L, k + 1 => by
    by_cases h : p x = true
    · obtain ⟨m, hm⟩ := filter_take p L k
      refine ⟨m + 1, ?_⟩
      rw [List.filter_cons_of_pos h, List.take_succ_cons, List.take_succ_cons, List.filter_cons_of_pos h, hm]
    · obtain ⟨m, hm⟩ := filter_take p L (k + 1)
      refine ⟨m + 1, ?_⟩
      rw [List.filter_cons_of_neg h, List.take_succ_cons, List.filter_cons_of_neg h, hm]
def p1 (a b : List HD) (i : Nat) : Bool := !sameR (a.getD i HD0).r (bothI a b i)
def p2 (a b : List HD) (i : Nat) : Bool := !sameR (b.getD i HD0).r (bothI a b i)
def F1 (a b : List HD) : List Nat := (downL a true).filter (p1 a b)
def F2 (a b : List HD) : List Nat := (downL a false).filter (p2 a b)
/-- The resources after so many steps of the first half, of the second half. -/
def RK1 (a b : List HD) (k i : Nat) : RS := if i ∈ (F1 a b).take k then bothI a b i else (a.getD i HD0).r
def RK2 (a b : List HD) (k i : Nat) : RS := if i ∈ (F2 a b).take k then (b.getD i HD0).r else bothI a b i
def RK (a b : List HD) (k : Nat) : Nat → RS := if k < (F1 a b).length then RK1 a b k else RK2 a b (k - (F1 a b).length)
theorem RK1_eq (a b : List HD) (k i : Nat) : RK1 a b k i = if i ∈ (F1 a b).take k then bothI a b i else (a.getD i HD0).r := rfl
theorem RK2_eq (a b : List HD) (k i : Nat) : RK2 a b k i = if i ∈ (F2 a b).take k then (b.getD i HD0).r else bothI a b i := rfl
theorem RK_lt {a b : List HD} {k : Nat} (h : k < (F1 a b).length) : RK a b k = RK1 a b k := by unfold RK; rw [if_pos h]
theorem RK_ge (a b : List HD) (k : Nat) : RK a b ((F1 a b).length + k) = RK2 a b k := by unfold RK; rw [if_neg (by omega), Nat.add_sub_cancel_left]
theorem F1_mem {a b : List HD} {i : Nat} : i ∈ F1 a b ↔ i ∈ downL a true ∧ p1 a b i = true := List.mem_filter
theorem F2_mem {a b : List HD} {i : Nat} : i ∈ F2 a b ↔ i ∈ downL a false ∧ p2 a b i = true := List.mem_filter
theorem len1k {r : RS} {n : Nat} (h : lenRS n r) (hn : n ≤ 1000) : lenRS 1000 r := ⟨by have := h.1; omega, by have := h.2.1; omega, by have := h.2.2; omega⟩
theorem p1_no {a b : List HD} {i : Nat} (h : ¬ p1 a b i = true) : (a.getD i HD0).r = bothI a b i := by
  unfold p1 at h
  exact sameR_eq (by simpa using h)
theorem p2_no {a b : List HD} {i : Nat} (h : ¬ p2 a b i = true) : (b.getD i HD0).r = bothI a b i := by
  unfold p2 at h
  exact sameR_eq (by simpa using h)
theorem RK1_R1 (a b : List HD) (k : Nat) : ∃ m, ∀ i, RK1 a b k i = R1 a b ((downL a true).take m) i := by
  obtain ⟨m, hm⟩ := filter_take (p1 a b) (downL a true) k
  refine ⟨m, fun i => ?_⟩
  unfold RK1 R1 F1
  rw [hm]
  by_cases h : i ∈ (downL a true).take m
  · rw [if_pos h]
    by_cases g : p1 a b i = true
    · rw [if_pos (List.mem_filter.2 ⟨h, g⟩)]
    · rw [if_neg (fun x => g (List.mem_filter.1 x).2), p1_no g]
  · rw [if_neg h, if_neg (fun x => h (List.mem_filter.1 x).1)]
theorem RK2_R2 (a b : List HD) (k : Nat) : ∃ m, ∀ i, RK2 a b k i = R2 a b ((downL a false).take m) i := by
  obtain ⟨m, hm⟩ := filter_take (p2 a b) (downL a false) k
  refine ⟨m, fun i => ?_⟩
  unfold RK2 R2 F2
  rw [hm]
  by_cases h : i ∈ (downL a false).take m
  · rw [if_pos h]
    by_cases g : p2 a b i = true
    · rw [if_pos (List.mem_filter.2 ⟨h, g⟩)]
    · rw [if_neg (fun x => g (List.mem_filter.1 x).2), p2_no g]
  · rw [if_neg h, if_neg (fun x => h (List.mem_filter.1 x).1)]
theorem sndX_congr {a : List HD} {R S : Nat → RS} (h : ∀ i, i < a.length → R i = S i) (hs : sndX a R) : sndX a S := by
  intro i j hi hp
  rw [← h i hi, ← h j (plc_lt hp)]
  exact hs i j hi hp
section
variable {a b : List HD} (H : PL a b)
include H
theorem PL.s1 (k : Nat) : sndX a (RK1 a b k) := by
  obtain ⟨m, hm⟩ := RK1_R1 a b k
  exact sndX_congr (fun i _ => (hm i).symm) (H.snd1 m)
theorem PL.s2 (k : Nat) : sndX a (RK2 a b k) := by
  obtain ⟨m, hm⟩ := RK2_R2 a b k
  exact sndX_congr (fun i _ => (hm i).symm) (H.snd2 m)
/-- Behind the first half everybody has both. -/
theorem PL.half {i : Nat} (hi : i < a.length) : RK1 a b (F1 a b).length i = RK2 a b 0 i := by
  rw [RK1_eq, RK2_eq, List.take_length, List.take_zero, if_neg List.not_mem_nil]
  by_cases g : p1 a b i = true
  · rw [if_pos (F1_mem.2 ⟨down_mem H.ca hi, g⟩)]
  · rw [if_neg (fun x => g (F1_mem.1 x).2), p1_no g]
theorem PL.last {i : Nat} (hi : i < a.length) : RK2 a b (F2 a b).length i = (b.getD i HD0).r := by
  rw [RK2_eq, List.take_length]
  by_cases g : p2 a b i = true
  · rw [if_pos (F2_mem.2 ⟨down_mem H.ca hi, g⟩)]
  · rw [if_neg (fun x => g (F2_mem.1 x).2), p2_no g]
theorem PL.ok {k i : Nat} (hi : i < a.length) : okR (RK a b k i) ∧ lenRS 1000 (RK a b k i) := by
  have h2 := H.two hi
  have la := len1k h2.la (by omega)
  have lb := len1k h2.lb (by omega)
  have li := len1k (chkR_len h2.oi.c) (by omega)
  rcases Nat.lt_or_ge k (F1 a b).length with h | h
  · rw [RK_lt h, RK1_eq]
    split
    · exact ⟨h2.oi, li⟩
    · exact ⟨h2.oa, la⟩
  · obtain ⟨q, rfl⟩ : ∃ q, k = (F1 a b).length + q := ⟨k - (F1 a b).length, by omega⟩
    rw [RK_ge, RK2_eq]
    split
    · exact ⟨h2.ob, lb⟩
    · exact ⟨h2.oi, li⟩
theorem PL.first : trX a (RK a b 0) = a := by
  refine Eq.trans (trX_congr fun i hi => ?_) (trX_self a)
  have e0 : RK1 a b 0 i = (a.getD i HD0).r := by rw [RK1_eq, List.take_zero, if_neg List.not_mem_nil]
  rcases Nat.lt_or_ge 0 (F1 a b).length with h | h
  · rw [RK_lt h, e0]
  · have h0 : (F1 a b).length = 0 := by omega
    have h1 := H.half hi
    have h2 := RK_ge a b 0
    rw [h0] at h1 h2
    rw [show RK a b 0 = RK2 a b 0 from h2, ← h1, e0]
theorem PL.final : trX a (RK a b ((F1 a b).length + (F2 a b).length)) = b := by
  have hl := shp_len H.sh
  refine List.ext_getElem (by simp [hl]) fun i h1 h2 => ?_
  have hi : i < a.length := by omega
  have hn := shp_np H.sh hi
  have hR : RK a b ((F1 a b).length + (F2 a b).length) i = (b.getD i HD0).r := by
    rw [RK_ge]
    exact H.last hi
  simp only [trX, List.getElem_map, List.getElem_range]
  rw [hR, hn.1, hn.2, hd_get h2]
end
theorem plan_len (a b : List HD) : (planS a b).length = (F1 a b).length + (F2 a b).length := by
  rw [planS_eq, List.length_append, List.length_map, List.length_map]; rfl
/-- What one step does. -/
theorem PL.step {a b : List HD} (H : PL a b) {k : Nat} (hk : k < (planS a b).length) : ∃ i, i < a.length ∧ (planS a b)[k].n = (a.getD i HD0).n ∧ okR (planS a b)[k].r ∧ lenRS 1000 (planS a b)[k].r ∧
    trX a (RK a b (k + 1)) = trX a (upd (RK a b k) i (planS a b)[k].r) ∧ sndX a (upd (RK a b k) i (planS a b)[k].r) := by
  have hlen := plan_len a b
  have hsp : planS a b = (F1 a b).map (fun i => ⟨(a.getD i HD0).n, bothI a b i⟩) ++ (F2 a b).map (fun i => ⟨(b.getD i HD0).n, resI b i⟩) := planS_eq a b
  have key : ∃ i, i < a.length ∧ (planS a b)[k].n = (a.getD i HD0).n ∧ (okR (planS a b)[k].r ∧ lenRS 1000 (planS a b)[k].r) ∧ (∀ x, x < a.length → RK a b (k + 1) x = upd (RK a b k) i (planS a b)[k].r x) ∧ sndX a (RK a b (k + 1)) := by
    rcases Nat.lt_or_ge k (F1 a b).length with h | h
    · have hs : (planS a b)[k] = ⟨(a.getD (F1 a b)[k] HD0).n, bothI a b (F1 a b)[k]⟩ := by
        simp only [hsp]
        rw [List.getElem_append_left (by simpa using h), List.getElem_map]
      have hi : (F1 a b)[k] < a.length := down_lt (List.mem_filter.1 (List.getElem_mem h)).1
      have h2 := H.two hi
      have hl := chkR_len h2.oi.c
      have hnx : ∀ x, x < a.length → RK a b (k + 1) x = RK1 a b (k + 1) x := fun x hx => by
        by_cases g : k + 1 < (F1 a b).length
        · rw [RK_lt g]
        · have e : k + 1 = (F1 a b).length := by omega
          rw [e, show RK a b (F1 a b).length = RK2 a b 0 from RK_ge a b 0]
          exact (H.half hx).symm
      refine ⟨(F1 a b)[k], hi, by rw [hs], ⟨by rw [hs]; exact h2.oi, by rw [hs]; exact len1k hl (by omega)⟩, fun x hx => ?_, sndX_congr (fun x hx => (hnx x hx).symm) (H.s1 (k + 1))⟩
      rw [hnx x hx, hs, RK_lt h]
      unfold upd
      rw [RK1_eq, RK1_eq, take_snoc' (F1 a b) k h]
      by_cases e : x = (F1 a b)[k]
      · rw [if_pos e, if_pos (List.mem_append.2 (.inr (by simp [e]))), e]
      · rw [if_neg e]
        by_cases g : x ∈ (F1 a b).take k
        · rw [if_pos (List.mem_append.2 (.inl g)), if_pos g]
        · rw [if_neg (fun z => (List.mem_append.1 z).elim g (fun w => e (by simpa using w))), if_neg g]
    · obtain ⟨q, rfl⟩ : ∃ q, k = (F1 a b).length + q := ⟨k - (F1 a b).length, by omega⟩
      have hq : q < (F2 a b).length := by omega
      have hs : (planS a b)[(F1 a b).length + q] = ⟨(b.getD (F2 a b)[q] HD0).n, resI b (F2 a b)[q]⟩ := by
        simp only [hsp]
        rw [List.getElem_append_right (by simp)]
        simp
      have hi : (F2 a b)[q] < a.length := down_lt (List.mem_filter.1 (List.getElem_mem hq)).1
      have h2 := H.two hi
      have hl := h2.lb
      have e0 : RK a b ((F1 a b).length + q) = RK2 a b q := RK_ge a b q
      have e1 : RK a b ((F1 a b).length + q + 1) = RK2 a b (q + 1) := RK_ge a b (q + 1)
      refine ⟨(F2 a b)[q], hi, by rw [hs]; exact (shp_np H.sh hi).1.symm, ⟨by rw [hs]; exact h2.ob, by rw [hs]; exact len1k hl (by omega)⟩, fun x hx => ?_, by rw [e1]; exact H.s2 (q + 1)⟩
      rw [e1, e0, hs]
      unfold upd
      rw [RK2_eq, RK2_eq, take_snoc' (F2 a b) q hq]
      by_cases e : x = (F2 a b)[q]
      · rw [if_pos e, if_pos (List.mem_append.2 (.inr (by simp [e]))), e]; rfl
      · rw [if_neg e]
        by_cases g : x ∈ (F2 a b).take q
        · rw [if_pos (List.mem_append.2 (.inl g)), if_pos g]
        · rw [if_neg (fun z => (List.mem_append.1 z).elim g (fun w => e (by simpa using w))), if_neg g]
  obtain ⟨i, h1, h2, ⟨h3, h4⟩, h5, h6⟩ := key
  exact ⟨i, h1, h2, h3, h4, trX_congr h5, sndX_congr h5 h6⟩
theorem downL_le {l : List HD} (h : chkT l = 0) (up : Bool) : (downL l up).length ≤ l.length := by
  have hn := downL_nodup h up
  have hg : ∀ e (he : e < (downL l up).length), (downL l up).getD e 0 = (downL l up)[e] := fun e he => by rw [List.getD_eq_getElem?_getD, List.getElem?_eq_getElem he]; rfl
  refine pigeon _ _ (fun e => (downL l up).getD e 0) (fun e he => ?_) (fun e e' he he' hx => ?_)
  · show (downL l up).getD e 0 < _
    rw [hg e he]
    exact down_lt (List.getElem_mem he)
  · replace hx : (downL l up).getD e 0 = (downL l up).getD e' 0 := hx
    rw [hg e he, hg e' he'] at hx
    exact (List.getElem_inj hn).1 hx
theorem plan_le {a b : List HD} (hc : chkT a = 0) : (planS a b).length ≤ 2 * a.length := by
  rw [plan_len]
  have h1 := downL_le hc true
  have h2 := downL_le hc false
  have h3 : (F1 a b).length ≤ (downL a true).length := List.length_filter_le _ _
  have h4 : (F2 a b).length ≤ (downL a false).length := List.length_filter_le _ _
  omega
end Go.Proofs.Ytkcmgjagjbiinaa.AL
namespace Go.Proofs.Ytkcmgjagjbiinaa.AL
open Go
attribute [local simp] qf cv qbin ibin sbin qun retPost rvOk ctV ctPost marksOk retV resAll resOf V.lt ltL V.ren renL V.exp V.exp1 cleanL V.clean closedL V.closed V.cells V.one V.tree
  loadV cellsAt isNC nilQ isSlD isIfD slNew ownRows ownCells V.isOwn slStore srcO qlook mlook mget mstr zval qnone qmake mput lmap isAggD placesOf fillV putCells lstore bound seqParts V.sh shL Blk.sh newV V.ok peqs peq srcRows qbytes byteSl appOk mmV mmR hidE V.fz fzL Blk.fz fzOk and_assoc
attribute [-simp] Int.not_le Int.not_lt Nat.not_le Nat.not_lt
def M_f13 : Md := fun i => if i = 1 then some #[0, 0, 2, 7, 0, 0, 32, 127, 0, 0, 512, 2047, 4095, 8191, 0, 0, 0, 0, 1360, 0, 0, 0, 1280] else some #[]
@[simp] theorem M_f13_eq {i : Nat} : M_f13 i = (if i = 1 then some #[0, 0, 2, 7, 0, 0, 32, 127, 0, 0, 512, 2047, 4095, 8191, 0, 0, 0, 0, 1360, 0, 0, 0, 1280] else some #[]) := rfl
theorem runs_ref03_TwinF : ∀ args r, STwn args = some r → Runs Try.prog 13 args r := by
  intro args r hh
  unfold STwn at hh
  split at hh
  · rename_i cs
    split at hh
    · rename_i q hq
      split at hh
      · rename_i hlen
        cases hh
        have h1 := rsOf_eq hq
        subst h1
        have l4 : (sRows q.l4).length ≤ 1000000 := by rw [sRows_len]; exact hlen.1
        have l6 : (sRows q.l6).length ≤ 1000000 := by rw [sRows_len]; exact hlen.2.1
        have la : (aRows q.la).length ≤ 1000000 := by rw [aRows_len]; exact hlen.2.2
        simp only [RS.cells]
        generalize sRows q.l4 = R4 at *
        generalize sRows q.l6 = R6 at *
        generalize aRows q.la = RA at *
        refine Runs.of_body Try.func13 (by decide) rfl (by simp [Try.f13]) ?_
        refine W.seqE (T0_ok _) mixed M_f13 (by kernel_rfl) ?_
        simp [Try.f13]
        refine W.cut True [(2, .ptr 0 0)] [.box 26 [.own 1, .own 2, .own 3], .sl 4 101 R4, .sl 4 101 R6, .sl 2 68 RA] 16 ?_ ?_
        · refine W.of_WE (T0_ok _) mixed M_f13 _ (by kernel_rfl) ?_
          simp
          exact ⟨by omega, by omega, by omega, by omega, by omega, by omega⟩
        intro _
        refine W.wk (Wk.freeze 1 (.sl 4 101 R4) (by simp) (by simp)) ?_
        refine W.wk (Wk.freeze 2 (.sl 4 101 R6) (by simp) (by simp)) ?_
        refine W.wk (Wk.freeze 3 (.sl 2 68 RA) (by simp) (by simp)) ?_
        refine W.of_WE (T0_ok _) mixed M_f13 _ (by kernel_rfl) ?_
        simp
      · cases hh
    · cases hh
  · cases hh
theorem hRows_snoc {l : List HD} {k : Nat} (h : k < l.length) : hRows (l.take k) ++ [[.str l[k].n, .str l[k].p, .rd 4 (sRows l[k].r.l4), .rd 4 (sRows l[k].r.l6), .rd 2 (aRows l[k].r.la)]] = hRows (l.take (k + 1)) := by
  rw [take_snoc' l k h]; unfold hRows; rw [List.map_append]; rfl
def STwH : List V → Option Res
  | [.rd 5 rows] => match hdsOf rows with
    | some l => if lenL l then some ⟨.rd 5 (hRows l), []⟩ else none
    | none => none
  | _ => none
def M_f12 : Md := fun i => if i = 5 then some #[0, 0, 0, 6, 14, 30, 0, 0, 192, 448, 960, 0, 0, 6144, 14336, 30720, 63488, 131070, 262142, 524287, 1048575] else some #[]
@[simp] theorem M_f12_eq {i : Nat} : M_f12 i = (if i = 5 then some #[0, 0, 0, 6, 14, 30, 0, 0, 192, 448, 960, 0, 0, 6144, 14336, 30720, 63488, 131070, 262142, 524287, 1048575] else some #[]) := rfl
theorem runs_ref21_Twin : ∀ args r, STwH args = some r → Runs Try.prog 12 args r := by
  intro args r hh
  unfold STwH at hh
  split at hh
  · rename_i rows
    split at hh
    · rename_i l hl
      split at hh
      · rename_i hin
        obtain ⟨hlen, hrs⟩ := hin
        have h1 := parse_eq hdOf_eq hl
        subst h1
        cases hh
        change Runs _ _ [.rd 5 (hRows l)] ⟨.rd 5 (hRows l), []⟩
        have hT : (T0.add 13 STwn).ok Try.prog := Tab.add_ok (T0_ok _) runs_ref03_TwinF
        refine Runs.of_body Try.func12 (by decide) rfl (by simp [Try.f12]) ?_
        refine W.seqE hT mixed M_f12 (by kernel_rfl) ?_
        simp [Try.f12]
        refine W.seqE hT mixed M_f12 (by kernel_rfl) ?_
        simp
        refine W.wk (Wk.adopt 3 5 52 (by omega) (by simp)) ?_
        refine W.cutw True [(3, .rd 5 (hRows l))] [] 32 ?_ ?_
        · refine W.seqE hT mixed M_f12 (by kernel_rfl) ?_
          simp
          refine W.block (W.for (fun _ => True) (fun k => [(0, .rd 5 (hRows l)), (3, .own 0), (4, .int .i64 k)]) (fun k => [.sl 5 52 (hRows (l.take k))]) 32 l.length trivial ?_ ?_)
          · simp [hRows]
          · intro k hk _
            refine W.of_WE hT mixed M_f12 _ (by kernel_rfl) ?_
            by_cases hlt : k < l.length
            · have hw1 : IntKind.i64.wrap ((k : Int) + 1) = k + 1 := wr_i64 (by omega) (by omega)
              have ht := twn_at (hrs l[k] (List.getElem_mem hlt))
              simp only [RS.cells] at ht
              have hsn := hRows_snoc hlt
              have hln : (hRows (l.take k)).length ≤ 1000 := by simp; omega
              rw [← hsn]
              generalize hRows (l.take k) = R at *
              simp [hlt, HD.row, ht, hw1]
              omega
            · have : k = l.length := by omega
              subst this
              rw [List.take_length]
              simp
              refine Wk.trans (Wk.freeze 0 (.sl 5 52 (hRows l)) (by simp) (by simp)) ?_
              exact norm_wk [] (by simp [wkOkx, tmOk, dfOk, hpOk])
        intro _
        refine W.of_WE hT mixed M_f12 _ (by kernel_rfl) ?_
        simp
      · cases hh
    · cases hh
  · cases hh
def SShp : List V → Option Res
  | [.rd 5 ra, .rd 5 rb] => match hdsOf ra, hdsOf rb with
    | some a, some b => if a.length ≤ 1000 ∧ b.length ≤ 1000 then some ⟨.bool (shpB a b), []⟩ else none
    | _, _ => none
  | _ => none
def M_f33 : Md := fun i => if i = 6 then some #[0, 0, 3, 7, 15, 0, 0, 96, 224, 480, 1023, 2047, 4095, 4095, 16383, 32767, 65535, 4095, 4095, 397311, 921599, 1970175, 4194303, 8388607] else some #[]
@[simp] theorem M_f33_eq {i : Nat} : M_f33 i = (if i = 6 then some #[0, 0, 3, 7, 15, 0, 0, 96, 224, 480, 1023, 2047, 4095, 4095, 16383, 32767, 65535, 4095, 4095, 397311, 921599, 1970175, 4194303, 8388607] else some #[]) := rfl
theorem runs_ref21_Shape : ∀ args r, SShp args = some r → Runs Try.prog 33 args r := by
  intro args r hh
  unfold SShp at hh
  split at hh
  · rename_i ra rb
    split at hh
    · rename_i a b ha hb
      split at hh
      · rename_i hlen
        obtain ⟨la, lb⟩ := hlen
        have h1 := parse_eq hdOf_eq ha
        have h2 := parse_eq hdOf_eq hb
        subst h1 h2
        cases hh
        change Runs _ _ [.rd 5 (hRows a), .rd 5 (hRows b)] _
        obtain ⟨X, hX⟩ : ∃ X, X = shpB a b := ⟨_, rfl⟩
        rw [← hX]
        refine Runs.of_body Try.func33 (by decide) rfl (by simp [Try.f33]) ?_
        refine W.seqE (T0_ok _) mixed M_f33 (by kernel_rfl) ?_
        simp [Try.f33]
        by_cases hl : a.length = b.length
        · have hl' : (a.length : Int) = b.length := by omega
          refine W.seqE (T0_ok _) mixed M_f33 (by kernel_rfl) ?_
          simp [hl']
          refine W.cut (X = true) [] [] 41 ?_ ?_
          · refine W.seqE (T0_ok _) mixed M_f33 (by kernel_rfl) ?_
            simp
            refine W.block (W.for (fun k => ∀ i, i < k → npE (a.getD i HD0) (b.getD i HD0) = true) (fun k => [(0, .rd 5 (hRows a)), (1, .rd 5 (hRows b)), (5, .int .i64 k)]) (fun _ => []) 41 a.length (fun i hi => absurd hi (by omega)) ?_ ?_)
            · simp
            · intro k hk hJ
              refine W.of_WE (T0_ok _) mixed M_f33 _ (by kernel_rfl) ?_
              by_cases hlt : k < a.length
              · have hlt2 : k < b.length := by omega
                have hw1 : IntKind.i64.wrap ((k : Int) + 1) = k + 1 := wr_i64 (by omega) (by omega)
                cases hp : npE a[k] b[k]
                · have hx : X = false := by
                    rw [hX]
                    unfold shpB
                    have : ((List.range a.length).all fun i => npE (a.getD i HD0) (b.getD i HD0)) = false := by
                      rw [List.all_eq_false]
                      exact ⟨k, by simpa using hlt, by rw [hd_get hlt, hd_get hlt2, hp]; simp⟩
                    rw [this, Bool.and_false]
                  unfold npE at hp
                  rw [← bytes_dec, ← bytes_dec] at hp
                  by_cases hn : a[k].n.toList = b[k].n.toList
                  · rw [decide_eq_true hn, Bool.true_and, decide_eq_false_iff_not] at hp
                    simp [hlt, hlt2, HD.row, hn, hp, hx]
                  · simp [hlt, hlt2, HD.row, hn, hx]
                · have hJ' : ∀ i, i < k + 1 → npE (a.getD i HD0) (b.getD i HD0) = true := fun i hi => by
                    rcases Nat.lt_or_ge i k with g | g
                    · exact hJ i g
                    · have : i = k := by omega
                      subst this; rw [hd_get hlt, hd_get hlt2, hp]
                  unfold npE at hp
                  rw [← bytes_dec, ← bytes_dec, Bool.and_eq_true, decide_eq_true_eq, decide_eq_true_eq] at hp
                  simp only [List.getD_eq_getElem?_getD] at hJ'
                  simp [hlt, hlt2, HD.row, hp.1, hp.2, hw1]
                  exact hJ'
              · have : k = a.length := by omega
                subst this
                have hx : X = true := by
                  rw [hX]
                  unfold shpB
                  rw [decide_eq_true hl, Bool.true_and, List.all_eq_true]
                  intro i hi
                  exact hJ i (by rw [List.mem_range] at hi; omega)
                simp [hx]
          · intro hi
            refine W.of_WE (T0_ok _) mixed M_f33 _ (by kernel_rfl) ?_
            simp [Try.f33, hi]
        · have hx : X = false := by rw [hX]; unfold shpB; rw [decide_eq_false hl, Bool.false_and]
          have hl' : ¬ (a.length : Int) = b.length := by omega
          refine W.of_WE (T0_ok _) mixed M_f33 _ (by kernel_rfl) ?_
          simp [Try.f33, hl', hx]
      · cases hh
    · cases hh
  · cases hh
def samT (a b : List HD) : Bool := shpB a b && (List.range a.length).all fun i => sameR (a.getD i HD0).r (b.getD i HD0).r
def SSmT : List V → Option Res
  | [.rd 5 ra, .rd 5 rb] => match hdsOf ra, hdsOf rb with
    | some a, some b => if (∀ h ∈ a, inRS h.r ∧ lenRS 1000000 h.r) ∧ (∀ h ∈ b, inRS h.r ∧ lenRS 1000000 h.r) ∧ a.length ≤ 1000 ∧ b.length ≤ 1000 then some ⟨.bool (samT a b), []⟩ else none
    | _, _ => none
  | _ => none
def M_f18 : Md := fun i => if i = 6 then some #[0, 0, 3, 7, 15, 0, 0, 96, 224, 480, 1023, 2047] else some #[]
@[simp] theorem M_f18_eq {i : Nat} : M_f18 i = (if i = 6 then some #[0, 0, 3, 7, 15, 0, 0, 96, 224, 480, 1023, 2047] else some #[]) := rfl
theorem runs_ref21_Same : ∀ args r, SSmT args = some r → Runs Try.prog 18 args r := by
  intro args r hh
  unfold SSmT at hh
  split at hh
  · rename_i ra rb
    split at hh
    · rename_i a b ha hb
      split at hh
      · rename_i hlen
        obtain ⟨ia, ib, la, lb⟩ := hlen
        have h1 := parse_eq hdOf_eq ha
        have h2 := parse_eq hdOf_eq hb
        subst h1 h2
        cases hh
        change Runs _ _ [.rd 5 (hRows a), .rd 5 (hRows b)] _
        have hT : ((T0.add 20 SSameD).add 33 SShp).ok Try.prog := Tab.add_ok (Tab.add_ok (T0_ok _) runs_ref03_Same) runs_ref21_Shape
        have hs0 : SShp [.rd 5 (hRows a), .rd 5 (hRows b)] = some ⟨.bool (shpB a b), []⟩ := by
          simp only [SShp, hRows_parse]; rw [if_pos ⟨la, lb⟩]
        obtain ⟨X, hX⟩ : ∃ X, X = samT a b := ⟨_, rfl⟩
        rw [← hX]
        refine Runs.of_body Try.func18 (by decide) rfl (by simp [Try.f18]) ?_
        refine W.seqE hT mixed M_f18 (by kernel_rfl) ?_
        simp [Try.f18]
        cases hsh : shpB a b
        case false =>
          have hx : X = false := by rw [hX]; unfold samT; rw [hsh, Bool.false_and]
          rw [hsh] at hs0
          refine W.of_WE hT mixed M_f18 _ (by kernel_rfl) ?_
          simp [hs0, hx]
        case true =>
        rw [hsh] at hs0
        have hl := shp_len hsh
        refine W.seqE hT mixed M_f18 (by kernel_rfl) ?_
        simp [hs0]
        refine W.cut (X = true) [] [] 28 ?_ ?_
        · refine W.seqE hT mixed M_f18 (by kernel_rfl) ?_
          simp
          refine W.block (W.for (fun k => ∀ i, i < k → sameR (a.getD i HD0).r (b.getD i HD0).r = true) (fun k => [(0, .rd 5 (hRows a)), (1, .rd 5 (hRows b)), (5, .int .i64 k)]) (fun _ => []) 28 a.length (fun i hi => absurd hi (by omega)) ?_ ?_)
          · simp
          · intro k hk hJ
            refine W.of_WE hT mixed M_f18 _ (by kernel_rfl) ?_
            by_cases hlt : k < a.length
            · have hlt2 : k < b.length := by omega
              have hw1 : IntKind.i64.wrap ((k : Int) + 1) = k + 1 := wr_i64 (by omega) (by omega)
              have xa := ia _ (List.getElem_mem hlt)
              have xb := ib _ (List.getElem_mem hlt2)
              have hs := sameD_at xa.1 xb.1 xa.2 xb.2
              simp only [RS.cells] at hs
              cases hp : sameR a[k].r b[k].r
              · have hx : X = false := by
                  rw [hX]
                  unfold samT
                  have : ((List.range a.length).all fun i => sameR (a.getD i HD0).r (b.getD i HD0).r) = false := by
                    rw [List.all_eq_false]
                    exact ⟨k, by simpa using hlt, by rw [hd_get hlt, hd_get hlt2, hp]; simp⟩
                  rw [this, Bool.and_false]
                rw [hp] at hs
                simp [hlt, hlt2, HD.row, hs, hx]
              · have hJ' : ∀ i, i < k + 1 → sameR (a.getD i HD0).r (b.getD i HD0).r = true := fun i hi => by
                  rcases Nat.lt_or_ge i k with g | g
                  · exact hJ i g
                  · have : i = k := by omega
                    subst this; rw [hd_get hlt, hd_get hlt2, hp]
                rw [hp] at hs
                simp only [List.getD_eq_getElem?_getD] at hJ'
                simp [hlt, hlt2, HD.row, hs, hw1]
                exact hJ'
            · have : k = a.length := by omega
              subst this
              have hx : X = true := by
                rw [hX]
                unfold samT
                rw [hsh, Bool.true_and, List.all_eq_true]
                intro i hi
                exact hJ i (by rw [List.mem_range] at hi; omega)
              simp [hx]
        · intro hi
          refine W.of_WE hT mixed M_f18 _ (by kernel_rfl) ?_
          simp [Try.f18, hi]
      · cases hh
    · cases hh
  · cases hh
theorem samT_self {a : List HD} : samT a a = true := by
  unfold samT shpB
  rw [decide_eq_true rfl, Bool.true_and, Bool.and_eq_true, List.all_eq_true, List.all_eq_true]
  exact ⟨fun i _ => by simp [npE], fun i _ => by simp [sameR]⟩

end Go.Proofs.Ytkcmgjagjbiinaa.AL
