import Derived.Test.YtkcmgjagjbiinaaC21nW13
import Derived.Test.YtkcmgjagjbiinaaC21nAL4
/- What single functions compute: a part of the proof; no conditions. -/
set_option linter.unusedVariables false
set_option linter.unusedSimpArgs false
set_option maxRecDepth 100000
set_option linter.unusedSectionVars false
namespace Go.Proofs.Ytkcmgjagjbiinaa.AL
open Go
attribute [local simp] qf cv qbin ibin sbin qun retPost rvOk ctV ctPost marksOk retV resAll resOf V.lt ltL V.ren renL V.exp V.exp1 cleanL V.clean closedL V.closed V.cells V.one V.tree
  loadV cellsAt isNC nilQ isSlD isIfD slNew ownRows ownCells V.isOwn slStore srcO qlook mlook mget mstr zval qnone qmake mput lmap isAggD placesOf fillV putCells lstore bound seqParts V.sh shL Blk.sh newV V.ok peqs peq srcRows qbytes byteSl appOk mmV mmR hidE V.fz fzL Blk.fz fzOk and_assoc
attribute [-simp] Int.not_le Int.not_lt Nat.not_le Nat.not_lt
theorem inL_trX {a b : List HD} (H : PL a b) (k : Nat) : inL (trX a (RK a b k)) := by
  refine ⟨fun h hh => ?_, by rw [trX_len]; exact H.ia.2⟩
  obtain ⟨i, hi, rfl⟩ := List.getElem_of_mem hh
  have hi' : i < a.length := by simpa using hi
  have h1 := H.ia.1 _ (List.getElem_mem hi')
  have h2 := H.ok (k := k) hi'
  rw [← hd_get hi, trX_get hi', hd_get hi']
  exact ⟨h1.1, h1.2.1, h2.1.i, len1M h2.2 (by omega)⟩
theorem chk_trX {a b : List HD} (H : PL a b) (k : Nat) : chkT (trX a (RK a b k)) = 0 := chkT_trX H.ca fun i hi => (H.ok hi).1.c
theorem app_trX {a b : List HD} (H : PL a b) {k : Nat} (hk : k < (planS a b).length) : SApp [.rd 5 (hRows (trX a (RK a b k))), .agg (planS a b)[k].row] = some ⟨.tup [.rd 5 (hRows (trX a (RK a b (k + 1)))), .int .i64 0], []⟩ := by
  obtain ⟨i, hi, hn, hr, hl, ht, hs⟩ := H.step hk
  have h1 := appT_trX (R := RK a b k) H.ca hi (fun j hj => (H.ok hj).1) hr hs
  have hsz := (H.ia.1 _ (List.getElem_mem hi)).1
  have e1 := rsOf_cells (planS a b)[k].r
  simp only [RS.cells] at e1
  simp only [SApp, SO.row, hRows_parse, e1]
  rw [if_pos ⟨inL_trX H k, by rw [hn, hd_get hi]; exact hsz, hr.i, len1M hl (by omega)⟩, hn, h1, ← ht]
theorem exc_trX {a b : List HD} (H : PL a b) {k : Nat} (hk : k < (planS a b).length) : SExcs [.rd 5 (hRows (trX a (RK a b (k + 1))))] = some ⟨.tup [.rd 1 [], .int .i64 0], []⟩ := by
  obtain ⟨i, hi, hn, hr, hl, ht, hs⟩ := H.step hk
  have hR : ∀ j, j < a.length → okR (upd (RK a b k) i (planS a b)[k].r j) := fun j hj => by unfold upd; split; exact hr; exact (H.ok hj).1
  have he : excL (trX a (RK a b (k + 1))) = [] := by rw [ht]; exact excL_trX hR hs
  simp only [SExcs, hRows_parse]
  rw [if_pos (inL_trX H (k + 1)), if_neg (by rw [chk_trX H (k + 1)]; simp), he]
  rfl
def M_f7 : Md := fun i => some #[]
@[simp] theorem M_f7_eq {i : Nat} : M_f7 i = (some #[]) := rfl
theorem shrinkSound_runs : ∀ As, ArgsV Try.prog Try.f7.params.toList [[.sl [.str, .str, .sl [.int .u64, .int .u64, .int .u64, .int .u64], .sl [.int .u64, .int .u64, .int .u64, .int .u64], .sl [.int .u32, .int .u32]]], [.sl [.str, .str, .sl [.int .u64, .int .u64, .int .u64, .int .u64], .sl [.int .u64, .int .u64, .int .u64, .int .u64], .sl [.int .u32, .int .u32]]]] As → Runs Try.prog 7 As ⟨.bool true, []⟩ := by
  intro As h
  obtain ⟨a, ia, b, ib, rfl⟩ : ∃ a : List HD, (∀ h ∈ a, inRS h.r) ∧ ∃ b : List HD, (∀ h ∈ b, inRS h.r) ∧ As = [.rd 5 (hRows a), .rd 5 (hRows b)] := by
    simp only [Try.f7, ArgsV] at h
    obtain ⟨_, _, V1, _, e1, rfl, h1, _, _, V2, _, e2, rfl, h2, rfl, rfl⟩ := h
    simp only [List.cons.injEq] at e1
    obtain ⟨rfl, rfl⟩ := e1
    simp only [List.cons.injEq] at e2
    obtain ⟨rfl, _⟩ := e2
    obtain ⟨a, rfl, ia⟩ := hl_of_shape h1
    obtain ⟨b, rfl, ib⟩ := hl_of_shape h2
    exact ⟨a, ia, b, ib, by simp [argV]⟩
  have gA := grL_at a
  have gB := grL_at b
  have ho := aliveS
  have hT : ((((((T0.add 21 (oneS [] ⟨.bool true, []⟩)).add 10 SGrL).add 22 SPlan).add 12 STwH).add 14 SApp).add 27 SExcs).ok Try.prog :=
    Tab.add_ok (Tab.add_ok (Tab.add_ok (Tab.add_ok (Tab.add_ok (Tab.add_ok (T0_ok _) (oneS_ok runs_law21_alive)) runs_ref21_Great) runs_shrink_Plan) runs_ref21_Twin) runs_shrink_Apply) runs_shrink_Excess
  have hT2 : (T0.add 18 SSmT).ok Try.prog := Tab.add_ok (T0_ok _) runs_ref21_Same
  refine Runs.of_body Try.func7 (by decide) rfl (by simp [Try.f7]) ?_
  refine W.seqE hT mixed M_f7 (by kernel_rfl) ?_
  simp [Try.f7]
  refine W.cut True [(0, .rd 5 (hRows a)), (1, .rd 5 (hRows b)), (5, .bool true)] [] 84 ?_ ?_
  · refine W.of_WE hT mixed M_f7 _ (by kernel_rfl) ?_
    simp [ho]
  intro _
  cases ga : grtL a
  case true =>
    rw [ga] at gA
    refine W.of_WE hT mixed M_f7 _ (by kernel_rfl) ?_
    simp [gA]
  case false =>
  rw [ga] at gA
  cases gb : grtL b
  case true =>
    rw [gb] at gB
    refine W.of_WE hT mixed M_f7 _ (by kernel_rfl) ?_
    simp [gA, gB]
  case false =>
  rw [gb] at gB
  obtain ⟨ja, sa⟩ := dom_of ga ia
  obtain ⟨jb, sb⟩ := dom_of gb ib
  have hp := plan_at ja jb sa sb
  refine W.seqE hT mixed M_f7 (by kernel_rfl) ?_
  simp [gA, gB]
  by_cases hE : planE a b = 0
  case neg =>
    rw [if_pos hE] at hp
    refine W.cut True [(5, .bool true), (6, .nils), (7, .int .i64 (planE a b))] [] 84 ?_ ?_
    · refine W.of_WE hT mixed M_f7 _ (by kernel_rfl) ?_
      simp [hp]
    intro _
    refine W.of_WE hT mixed M_f7 _ (by kernel_rfl) ?_
    simp [hE]
  case pos =>
  rw [if_neg (by simpa using hE)] at hp
  obtain ⟨hza, hzb, hsh, _, _⟩ := planE_0 hE
  have hleq := shp_len hsh
  obtain ⟨ST, hST⟩ : ∃ ST, ST = planS a b := ⟨_, rfl⟩
  rw [← hST] at hp
  have hSTl : ST.length ≤ 10000000 := by
    rw [hST]
    have h1 := foldS_len b (bothI a b) (resI b) (downL a false) ((downL a true).foldl (fun st i => addS st (a.getD i HD0) (bothI a b i) (bothI a b i)) [])
    have h2 := foldS_len a (bothI a b) (bothI a b) (downL a true) []
    have h3 := downL_len true ja.2
    have h4 := downL_len false ja.2
    simp only [List.length_nil] at h2
    exact Nat.le_trans h1 (by omega)
  have H : PL a b := ⟨ja, jb, sa, sb, hE⟩
  have hle : ST.length ≤ 2 * a.length := by rw [hST]; exact plan_le hza
  have happ : ∀ k (hk : k < ST.length), SApp [.rd 5 (hRows (trX a (RK a b k))), .agg ST[k].row] = some ⟨.tup [.rd 5 (hRows (trX a (RK a b (k + 1)))), .int .i64 0], []⟩ := fun k hk => by
    subst hST; exact app_trX H hk
  have hexc : ∀ k, k < ST.length → SExcs [.rd 5 (hRows (trX a (RK a b (k + 1))))] = some ⟨.tup [.rd 1 [], .int .i64 0], []⟩ := fun k hk => by
    subst hST; exact exc_trX H hk
  have hlast : trX a (RK a b ST.length) = b := by rw [hST, plan_len]; exact H.final
  have hfirst := H.first
  have htw : STwH [.rd 5 (hRows a)] = some ⟨.rd 5 (hRows a), []⟩ := by
    simp only [STwH, hRows_parse]; rw [if_pos ⟨ja.2, fun h hm => (ja.1 h hm).2.2.2⟩]
  have hsm : SSmT [.rd 5 (hRows b), .rd 5 (hRows b)] = some ⟨.bool true, []⟩ := by
    simp only [SSmT, hRows_parse]
    rw [if_pos ⟨fun h hm => (jb.1 h hm).2.2, fun h hm => (jb.1 h hm).2.2, jb.2, jb.2⟩, samT_self]
  have hla := ja.2
  refine W.cut True [(0, .rd 5 (hRows a)), (1, .rd 5 (hRows b)), (5, .bool true), (6, .rd 4 (oRowsS ST)), (7, .int .i64 0)] [] 84 ?_ ?_
  · refine W.of_WE hT mixed M_f7 _ (by kernel_rfl) ?_
    simp [hp]
  intro _
  refine W.seqE hT mixed M_f7 (by kernel_rfl) ?_
  simp
  have hw2 : IntKind.i64.wrap (2 * (a.length : Int)) = 2 * (a.length : Int) := wr_i64 (by omega) (by omega)
  have hle' : ¬ (2 * (a.length : Int) < ST.length) := by omega
  refine W.seqE hT mixed M_f7 (by kernel_rfl) ?_
  simp [hw2, hle']
  refine W.cut True [(0, .rd 5 (hRows a)), (1, .rd 5 (hRows b)), (5, .bool true), (6, .rd 4 (oRowsS ST)), (8, .rd 5 (hRows (trX a (RK a b 0))))] [] 84 ?_ ?_
  · refine W.of_WE hT mixed M_f7 _ (by kernel_rfl) ?_
    simp [htw, hfirst]
  intro _
  refine W.cut True [(1, .rd 5 (hRows b)), (5, .bool true), (8, .rd 5 (hRows b))] [] 84 ?_ ?_
  · refine W.seqE hT mixed M_f7 (by kernel_rfl) ?_
    simp
    refine W.block (W.for (fun _ => True) (fun k => [(1, .rd 5 (hRows b)), (5, .bool true), (6, .rd 4 (oRowsS ST)), (8, .rd 5 (hRows (trX a (RK a b k)))), (9, .int .i64 k)]) (fun _ => []) 84 ST.length trivial ?_ ?_)
    · simp
    · intro k hk _
      by_cases hlt : k < ST.length
      · have hw1 : IntKind.i64.wrap ((k : Int) + 1) = k + 1 := wr_i64 (by omega) (by omega)
        have h1 := happ k hlt
        have h2 := hexc k hlt
        simp only [SO.row] at h1
        refine W.seqE hT mixed M_f7 (by kernel_rfl) ?_
        simp [hlt]
        refine W.of_WE hT mixed M_f7 _ (by kernel_rfl) ?_
        generalize hRows (trX a (RK a b k)) = A0 at *
        generalize hRows (trX a (RK a b (k + 1))) = A1 at *
        simp [hlt, SO.row, h1, h2, hw1]
      · have : k = ST.length := by omega
        subst this
        rw [hlast]
        refine W.of_WE hT mixed M_f7 _ (by kernel_rfl) ?_
        simp
  intro _
  refine W.of_WE hT2 mixed M_f7 _ (by kernel_rfl) ?_
  simp [hsm]

end Go.Proofs.Ytkcmgjagjbiinaa.AL
namespace Go.Proofs.Ytkcmgjagjbiinaa.AL
open Go
attribute [local simp] qf cv qbin ibin sbin qun retPost rvOk ctV ctPost marksOk retV resAll resOf V.lt ltL V.ren renL V.exp V.exp1 cleanL V.clean closedL V.closed V.cells V.one V.tree
  loadV cellsAt isNC nilQ isSlD isIfD slNew ownRows ownCells V.isOwn slStore srcO qlook mlook mget mstr zval qnone qmake mput lmap isAggD placesOf fillV putCells lstore bound seqParts V.sh shL Blk.sh newV V.ok peqs peq srcRows qbytes byteSl appOk mmV mmR hidE V.fz fzL Blk.fz fzOk and_assoc
attribute [-simp] Int.not_le Int.not_lt Nat.not_le Nat.not_lt
def depI (l : List HD) (i : Nat) : Int := match dep l 30 (l.getD i HD0).p with
  | some d => d
  | none => -1
structure DpR (l : List HD) (o : Option Nat) where
  i : Nat
  d : Nat
  hi : i < l.length
  hd : d ≤ 30
  eq : (dep l (30 - d) (l.getD i HD0).p).map (· + d) = o
def SDep : List V → Option Res
  | [.rd 5 rows, .int .i64 i] => match hdsOf rows with
    | some l => if l.length ≤ 1000 ∧ 0 ≤ i ∧ i < l.length then some ⟨.int .i64 (depI l i.toNat), []⟩ else none
    | none => none
  | _ => none
theorem plc_at' {l : List HD} {s : ByteArray} (h : l.length ≤ 1000) : SPlc [.rd 5 (hRows l), .str s] = some ⟨.int .i64 (plcI l s), []⟩ := by
  simp only [SPlc, hRows_parse]; rw [if_pos h]
def M_f50 : Md := fun i => some #[]
@[simp] theorem M_f50_eq {i : Nat} : M_f50 i = (some #[]) := rfl
theorem runs_ref21_Depth : ∀ args r, SDep args = some r → Runs Try.prog 50 args r := by
  intro args r hh
  unfold SDep at hh
  split at hh
  · rename_i rows i0
    split at hh
    · rename_i l hl
      split at hh
      · rename_i hin
        obtain ⟨hlen, h0, h1⟩ := hin
        have h2 := parse_eq hdOf_eq hl
        subst h2
        cases hh
        obtain ⟨i, rfl⟩ := Int.eq_ofNat_of_zero_le h0
        have hi : i < l.length := by omega
        change Runs _ _ [.rd 5 (hRows l), .int .i64 (i : Int)] ⟨.int .i64 (depI l i), []⟩
        have hT : (T0.add 23 SPlc).ok Try.prog := Tab.add_ok (T0_ok _) runs_ref21_Place
        obtain ⟨o, ho⟩ : ∃ o, o = dep l 30 (l.getD i HD0).p := ⟨_, rfl⟩
        obtain ⟨X, hX⟩ : ∃ X, X = depI l i := ⟨_, rfl⟩
        rw [← hX]
        unfold depI at hX
        rw [← ho] at hX
        refine Runs.of_body Try.func50 (by decide) rfl (by simp [Try.f50]) ?_
        refine W.seqE hT mixed M_f50 (by kernel_rfl) ?_
        simp [Try.f50]
        refine W.seqE hT mixed M_f50 (by kernel_rfl) ?_
        simp
        refine W.cut True [(5, .int .i64 X)] [] 28 ?_ ?_
        · refine W.block (W.fam (ι := DpR l o) (fun q => [(0, .rd 5 (hRows l)), (1, .int .i64 (q.i : Int)), (5, .int .i64 (q.d : Int))]) (fun _ => []) 28 (fun q => 30 - q.d) ⟨i, 0, hi, by omega, by rw [ho, Nat.sub_zero]; cases dep l 30 (l.getD i HD0).p <;> rfl⟩ ?_ ?_)
          · simp
          · rintro ⟨j, d, hj, hd, he⟩
            rw [hd_get hj] at he
            refine W.of_WE hT mixed M_f50 _ (by kernel_rfl) ?_
            by_cases hp : l[j].p = .empty
            · rw [hp, dep_emp] at he
              simp at he
              rw [← he] at hX
              simp [hj, HD.row, hp, emp_nil, hX]
            · have hpl := emp_ne hp
              have hps := plc_at' (l := l) (s := l[j].p) hlen
              have hw : IntKind.i64.wrap ((d : Int) + 1) = d + 1 := wr_i64 (by omega) (by omega)
              unfold plcI at hps
              cases hq : plc (nmsL l) l[j].p with
              | none =>
                rw [hq] at hps
                rw [dep_none hp hq] at he
                simp at he
                rw [← he] at hX
                simp [hj, HD.row, hpl, hps, hw, hX]
              | some k =>
                rw [hq] at hps
                have hk := plc_lt hq
                by_cases hd30 : d = 30
                · rw [show 30 - d = 0 by omega, dep_zero hp] at he
                  simp at he
                  rw [← he] at hX
                  have hnk : ¬ (k : Int) < 0 := by omega
                  have hnd : (30 : Int) < (d : Int) + 1 := by omega
                  simp [hj, HD.row, hpl, hps, hw, hX, hnk, hnd]
                · rw [show 30 - d = (30 - (d + 1)) + 1 by omega, dep_step hp hq] at he
                  have hnk : ¬ (k : Int) < 0 := by omega
                  have hnd : ¬ (30 : Int) < (d : Int) + 1 := by omega
                  simp [hj, HD.row, hpl, hps, hw, hnk, hnd]
                  refine ⟨⟨k, d + 1, hk, by omega, ?_⟩, by simp; omega, by simp⟩
                  rw [← he, Option.map_map]
                  congr 1
                  funext x
                  simp; omega
        intro _
        refine W.of_WE hT mixed M_f50 _ (by kernel_rfl) ?_
        simp
      · cases hh
    · cases hh
  · cases hh
/-- The reference finds a root where the program does. -/
theorem depI_ok {l : List HD} {i : Nat} (hl : l.length ≤ 30) (hi : i < l.length) : okD l i = decide (0 ≤ depI l i) := by
  unfold okD depI
  cases h : dep l (l.length + 1) (l.getD i HD0).p with
  | some d =>
    have hd := dep_lt hi h
    rw [dep_mono h (by omega)]
    simp
  | none =>
    cases h2 : dep l 30 (l.getD i HD0).p with
    | none => rfl
    | some d =>
      have hd := dep_lt hi h2
      rw [dep_mono h2 (by omega)] at h
      cases h
theorem depI_val {l : List HD} {i : Nat} (hc : chkT l = 0) (hi : i < l.length) : depI l i = depN l i := by
  have h1 := chkT_D hc hi
  have h2 := chkT_len hc
  have h3 := depN_lt hc hi
  unfold depI
  rw [dep_mono h1 (by omega)]
def M_f32 : Md := fun i => if i = 6 then some #[0, 0, 3, 7, 15, 31, 63, 127, 255, 255, 1023, 2047, 4095, 8191, 16383, 32767, 65535, 131071, 262143, 524287, 1048575, 1048575, 4194303, 8388607, 16777215, 1048575, 1048575, 68157439, 235929599, 504365055, 1041235967, 2147483647, 4294967295, 8589934591] else some #[]
@[simp] theorem M_f32_eq {i : Nat} : M_f32 i = (if i = 6 then some #[0, 0, 3, 7, 15, 31, 63, 127, 255, 255, 1023, 2047, 4095, 8191, 16383, 32767, 65535, 131071, 262143, 524287, 1048575, 1048575, 4194303, 8388607, 16777215, 1048575, 1048575, 68157439, 235929599, 504365055, 1041235967, 2147483647, 4294967295, 8589934591] else some #[]) := rfl
theorem runs_ref21_Check : ∀ args r, SChkT args = some r → Runs Try.prog 32 args r := by
  intro args r hh
  unfold SChkT at hh
  split at hh
  · rename_i rows
    split at hh
    · rename_i l hl
      split at hh
      · rename_i hin
        obtain ⟨hin, hlen⟩ := hin
        cases hh
        have h1 := parse_eq hdOf_eq hl
        subst h1
        change Runs _ _ [.rd 5 (hRows l)] ⟨.int .i64 (chkT l), []⟩
        have hT : (((T0.add 60 SName).add 46 SChkR).add 50 SDep).ok Try.prog := Tab.add_ok (Tab.add_ok (Tab.add_ok (T0_ok _) runs_ref01_Name) runs_ref03_Check) runs_ref21_Depth
        obtain ⟨X, hX⟩ : ∃ X, X = chkT l := ⟨_, rfl⟩
        rw [← hX]
        refine Runs.of_body Try.func32 (by decide) rfl (by simp [Try.f32]) ?_
        refine W.seqE hT mixed M_f32 (by kernel_rfl) ?_
        simp [Try.f32]
        by_cases h30 : 30 < l.length
        · have hE : X = 4 := by rw [hX]; unfold chkT opnE; rw [if_pos h30]
          have h30' : (30 : Int) < l.length := by omega
          refine W.of_WE hT mixed M_f32 _ (by kernel_rfl) ?_
          simp [h30', hE]
        have h30' : ¬ (30 : Int) < l.length := by omega
        refine W.seqE hT mixed M_f32 (by kernel_rfl) ?_
        simp [h30']
        refine W.cut (lead (okN l) l.length = l.length) [(0, .rd 5 (hRows l))] [] 58 ?_ ?_
        · refine W.seqE hT mixed M_f32 (by kernel_rfl) ?_
          simp
          refine W.block (W.for (fun k => ∀ i, i < k → okN l i = true) (fun k => [(0, .rd 5 (hRows l)), (3, .int .i64 k)]) (fun _ => []) 58 l.length (fun i hi => absurd hi (by omega)) ?_ ?_)
          · simp
          · intro k hk hJ
            refine W.of_WE hT mixed M_f32 _ (by kernel_rfl) ?_
            by_cases hlt : k < l.length
            · have hh := hin l[k] (List.getElem_mem hlt)
              obtain ⟨hs1, hs2, hi, hl0⟩ := hh
              have hN : SName [.str l[k].n] = some ⟨.bool (nameS l[k].n), []⟩ := by simp only [SName]; rw [if_pos (by omega)]
              have hC := chkR_at hi hl0
              simp only [RS.cells] at hC
              have hw1 : IntKind.i64.wrap ((k : Int) + 1) = k + 1 := wr_i64 (by omega) (by omega)
              by_cases hok : okN l k = true
              · have hJ' : ∀ i, i < k + 1 → okN l i = true := fun i hi => by
                  rcases Nat.lt_or_ge i k with g | g
                  · exact hJ i g
                  · have : i = k := by omega
                    subst this; exact hok
                unfold okN at hok
                rw [hd_get hlt] at hok
                simp only [Bool.and_eq_true, Bool.or_eq_true, decide_eq_true_eq] at hok
                obtain ⟨o1, o2, o3⟩ := hok
                rw [o1] at hN
                rw [o2] at hC
                by_cases hk0 : k = 0
                · subst hk0
                  simp at hw1
                  simp [hlt, HD.row, hN, hC, hw1]
                  exact hJ' 0 (by omega)
                · have o4 := o3.resolve_left hk0
                  have hk1 : 0 < k := by omega
                  have hkl : k - 1 < l.length := by omega
                  have hw2 : IntKind.i64.wrap ((k : Int) - 1) = ((k - 1 : Nat) : Int) := by rw [wr_i64 (by omega) (by omega)]; omega
                  rw [hd_get hkl] at o4
                  have o5 := bls_tri l[k - 1].n l[k].n
                  rw [o4, ← bytes_dec] at o5
                  have o6 : Op.bytesLess l[k].n.toList l[k - 1].n.toList = false ∧ ¬ l[k].n.toList = l[k - 1].n.toList := by
                    have : (bls l[k].n l[k - 1].n || decide (l[k].n.toList = l[k - 1].n.toList)) = false := o5.symm
                    rw [Bool.or_eq_false_iff, decide_eq_false_iff_not] at this
                    exact this
                  simp [hlt, HD.row, hN, hC, hw1, hk1, hw2, hkl, o6.1, o6.2]
                  exact hJ'
              · have hld : lead (okN l) l.length = k := lead_at _ _ _ hk hJ (fun _ => by simpa using hok)
                have hE : X = 8 := by rw [hX]; unfold chkT opnE; rw [if_neg h30, hld, if_pos hlt]
                unfold okN at hok
                rw [hd_get hlt] at hok
                cases o1 : nameS l[k].n
                · rw [o1] at hN
                  simp [hlt, HD.row, hN, hE]
                · rw [o1] at hN
                  by_cases o2 : chkR l[k].r = 0
                  · rw [o2] at hC
                    have hk0 : ¬ k = 0 := fun h => hok (by subst h; simp [o1, o2])
                    have hk1 : 0 < k := by omega
                    have hkl : k - 1 < l.length := by omega
                    have hw2 : IntKind.i64.wrap ((k : Int) - 1) = ((k - 1 : Nat) : Int) := by rw [wr_i64 (by omega) (by omega)]; omega
                    rw [hd_get hkl] at hok
                    have o4 : bls l[k - 1].n l[k].n = false := by
                      rw [Bool.eq_false_iff]; intro h
                      exact hok (by simp [o1, o2, h])
                    have o5 := bls_tri l[k - 1].n l[k].n
                    rw [o4, ← bytes_dec] at o5
                    have o6 : (Op.bytesLess l[k].n.toList l[k - 1].n.toList || decide (l[k].n.toList = l[k - 1].n.toList)) = true := o5.symm
                    by_cases o7 : l[k].n.toList = l[k - 1].n.toList
                    · simp [hlt, HD.row, hN, hC, hk1, hw2, hkl, o7, hE]
                    · rw [decide_eq_false o7, Bool.or_false] at o6
                      simp [hlt, HD.row, hN, hC, hk1, hw2, hkl, o6, hE]
                  · simp [hlt, HD.row, hN, hC, o2, hE]
            · have : k = l.length := by omega
              subst this
              have hld : lead (okN l) l.length = l.length := lead_at _ _ _ (Nat.le_refl _) hJ (fun h => absurd h (by omega))
              simp [hld]
        intro hld
        refine W.cut (X = 0) [] [] 58 ?_ ?_
        · refine W.seqE hT mixed M_f32 (by kernel_rfl) ?_
          simp
          refine W.block (W.for (fun k => ∀ i, i < k → okD l i = true) (fun k => [(0, .rd 5 (hRows l)), (4, .int .i64 k)]) (fun _ => []) 58 l.length (fun i hi => absurd hi (by omega)) ?_ ?_)
          · simp
          · intro k hk hJ
            refine W.of_WE hT mixed M_f32 _ (by kernel_rfl) ?_
            by_cases hlt : k < l.length
            · have hw1 : IntKind.i64.wrap ((k : Int) + 1) = k + 1 := wr_i64 (by omega) (by omega)
              have hs : SDep [.rd 5 (hRows l), .int .i64 (k : Int)] = some ⟨.int .i64 (depI l k), []⟩ := by
                simp only [SDep, hRows_parse]; rw [if_pos ⟨hlen, by omega, by omega⟩]; rfl
              have hok := depI_ok (l := l) (i := k) (by omega) hlt
              by_cases h0 : 0 ≤ depI l k
              · rw [decide_eq_true h0] at hok
                have hJ' : ∀ i, i < k + 1 → okD l i = true := fun i hi => by
                  rcases Nat.lt_or_ge i k with g | g
                  · exact hJ i g
                  · have : i = k := by omega
                    subst this; exact hok
                have h0' : ¬ depI l k < 0 := by omega
                simp [hlt, hs, h0', hw1]
                exact hJ'
              · rw [decide_eq_false h0] at hok
                have h0' : depI l k < 0 := by omega
                have hld2 : lead (okD l) l.length = k := lead_at _ _ _ hk hJ (fun _ => hok)
                have hE : X = 8 := by rw [hX]; unfold chkT opnE; rw [if_neg h30, hld, if_neg (by omega), hld2, if_pos hlt]
                simp [hlt, hs, h0', hE]
            · have : k = l.length := by omega
              subst this
              have hld2 : lead (okD l) l.length = l.length := lead_at _ _ _ (Nat.le_refl _) hJ (fun h => absurd h (by omega))
              have hE : X = 0 := by rw [hX]; unfold chkT opnE; rw [if_neg h30, hld, if_neg (by omega), hld2, if_neg (by omega)]
              simp [hE]
        intro hx
        refine W.of_WE hT mixed M_f32 _ (by kernel_rfl) ?_
        simp [hx]
      · cases hh
    · cases hh
  · cases hh
/-- Has this holder of a valid tree too much? -/
def SMch : List V → Option Res
  | [.rd 5 rows, .int .i64 i] => match hdsOf rows with
    | some l => if inL l ∧ chkT l = 0 ∧ 0 ≤ i ∧ i < l.length then some ⟨.bool (excT (trL l) (l.getD i.toNat HD0)), []⟩ else none
    | none => none
  | _ => none
theorem name_ne {l : List HD} (h : chkT l = 0) : plc (nmsL l) .empty = none := by
  rw [plc_none]
  intro a ha e
  obtain ⟨x, hx, rfl⟩ := List.mem_map.1 ha
  obtain ⟨i, hi, rfl⟩ := List.getElem_of_mem hx
  have := (chkT_R h i hi).1
  rw [hd_get hi, e] at this
  exact absurd this (by decide)
theorem par_some {l : List HD} (h : chkT l = 0) {i : Nat} (hi : i < l.length) (hp : (l.getD i HD0).p ≠ .empty) : ∃ j, plc (nmsL l) (l.getD i HD0).p = some j := by
  cases hq : plc (nmsL l) (l.getD i HD0).p with
  | some j => exact ⟨j, rfl⟩
  | none =>
    have := chkT_D h hi
    rw [dep_none hp hq] at this
    cases this
theorem excT_val {l : List HD} (hl : inL l) (h : chkT l = 0) {i j : Nat} (hi : i < l.length) (hp : plc (nmsL l) (l.getD i HD0).p = some j) : excT (trL l) (l.getD i HD0) = !contR (l.getD j HD0).r (l.getD i HD0).r := by
  unfold excT parT trL
  simp only
  rw [hp]
  simp only
  unfold excH
  rw [(okT hl h (plc_lt hp)).c, (okT hl h hi).c]
  rfl
def M_f47 : Md := fun i => if i = 3 then some #[0, 0, 0, 0, 12, 28, 60, 126, 255, 511, 1023, 0, 0, 6144, 14336, 30720, 65535, 131071, 262143, 262143, 524287, 2097151] else some #[]
@[simp] theorem M_f47_eq {i : Nat} : M_f47 i = (if i = 3 then some #[0, 0, 0, 0, 12, 28, 60, 126, 255, 511, 1023, 0, 0, 6144, 14336, 30720, 65535, 131071, 262143, 262143, 524287, 2097151] else some #[]) := rfl
theorem runs_ref21_Much : ∀ args r, SMch args = some r → Runs Try.prog 47 args r := by
  intro args r hh
  unfold SMch at hh
  split at hh
  · rename_i rows i0
    split at hh
    · rename_i l hl
      split at hh
      · rename_i hin
        obtain ⟨hin, hc, h0, h1⟩ := hin
        have h2 := parse_eq hdOf_eq hl
        subst h2
        cases hh
        obtain ⟨i, rfl⟩ := Int.eq_ofNat_of_zero_le h0
        have hi : i < l.length := by omega
        have hlen := hin.2
        change Runs _ _ [.rd 5 (hRows l), .int .i64 (i : Int)] ⟨.bool (excT (trL l) (l.getD i HD0)), []⟩
        have hT : ((T0.add 23 SPlc).add 74 SContD).ok Try.prog := Tab.add_ok (Tab.add_ok (T0_ok _) runs_ref21_Place) runs_ref03_Contains
        refine Runs.of_body Try.func47 (by decide) rfl (by simp [Try.f47]) ?_
        by_cases hp : (l.getD i HD0).p = .empty
        · have he : excT (trL l) (l.getD i HD0) = false := by
            unfold excT parT trL
            simp only
            rw [hp, name_ne hc]
          rw [hd_get hi] at hp he
          rw [hd_get hi, he]
          refine W.of_WE hT mixed M_f47 _ (by kernel_rfl) ?_
          simp [Try.f47, hi, HD.row, hp, emp_nil]
        · obtain ⟨j, hj⟩ := par_some hc hi hp
          have hjl := plc_lt hj
          rw [excT_val hin hc hi hj]
          have oj := okT hin hc hjl
          have oi := okT hin hc hi
          have hcon : SContD [.agg (l.getD j HD0).r.cells, .agg (l.getD i HD0).r.cells] = some ⟨.tup [.bool (contR (l.getD j HD0).r (l.getD i HD0).r), .int .i64 0], []⟩ := by
            simp only [SContD, rsOf_cells]
            rw [if_pos ⟨oj.i, oi.i, okR_len oj, okR_len oi⟩, oj.c, oi.c, if_neg (by simp [orE2]), cont_eq oj.i oi.i oj.c oi.c]
          have hps := plc_at' (l := l) (s := (l.getD i HD0).p) hlen
          unfold plcI at hps
          rw [hj] at hps
          rw [hd_get hi] at hp hps hcon
          rw [hd_get hjl] at hcon
          rw [hd_get hi, hd_get hjl]
          simp only [RS.cells] at hcon
          have hpl := emp_ne hp
          refine W.seqE hT mixed M_f47 (by kernel_rfl) ?_
          simp [Try.f47]
          refine W.seqE hT mixed M_f47 (by kernel_rfl) ?_
          simp [hi, HD.row, hpl]
          refine W.of_WE hT mixed M_f47 _ (by kernel_rfl) ?_
          simp [hi, hjl, HD.row, hps, hcon]
      · cases hh
    · cases hh
  · cases hh
def M_f28 : Md := fun i => some #[]
@[simp] theorem M_f28_eq {i : Nat} : M_f28 i = (some #[]) := rfl
theorem runs_ref21_Excess : ∀ args r, SExcs args = some r → Runs Try.prog 28 args r := by
  intro args r hh
  unfold SExcs at hh
  split at hh
  · rename_i rows
    split at hh
    · rename_i l hl
      split at hh
      · rename_i hin
        have h1 := parse_eq hdOf_eq hl
        subst h1
        change Runs _ _ [.rd 5 (hRows l)] _
        have hlen := hin.2
        have hT : ((T0.add 32 SChkT).add 47 SMch).ok Try.prog := Tab.add_ok (Tab.add_ok (T0_ok _) runs_ref21_Check) runs_ref21_Much
        have hck : SChkT [.rd 5 (hRows l)] = some ⟨.int .i64 (chkT l), []⟩ := by simp only [SChkT, hRows_parse]; rw [if_pos hin]
        refine Runs.of_body Try.func28 (by decide) rfl (by simp [Try.f28]) ?_
        by_cases hz : chkT l = 0
        · rw [if_neg (by omega)] at hh
          cases hh
          rw [hz] at hck
          have hexc : ∀ k, k < l.length → SMch [.rd 5 (hRows l), .int .i64 (k : Int)] = some ⟨.bool (excT (trL l) (l.getD k HD0)), []⟩ := fun k hk => by
            simp only [SMch, hRows_parse]; rw [if_pos ⟨hin, hz, by omega, by omega⟩]; rfl
          refine W.seqE hT mixed M_f28 (by kernel_rfl) ?_
          simp [Try.f28]
          refine W.seqE hT mixed M_f28 (by kernel_rfl) ?_
          simp [hck]
          refine W.seqE hT mixed M_f28 (by kernel_rfl) ?_
          simp
          refine W.wk (Wk.adopt 4 1 9 (by omega) (by simp)) ?_
          refine W.cutw True [(4, .rd 1 (nmRows (nmsL (excL l))))] [] 29 ?_ ?_
          · refine W.seqE hT mixed M_f28 (by kernel_rfl) ?_
            simp
            refine W.block (W.for (fun _ => True) (fun k => [(0, .rd 5 (hRows l)), (4, .own 0), (5, .int .i64 k)]) (fun k => [.sl 1 9 (nmRows (nmsL ((l.take k).filter (excT (trL l)))))]) 29 l.length trivial ?_ ?_)
            · simp [nmRows, nmsL]
            · intro k hk _
              by_cases hlt : k < l.length
              · have hw1 : IntKind.i64.wrap ((k : Int) + 1) = k + 1 := wr_i64 (by omega) (by omega)
                have he := hexc k hlt
                rw [hd_get hlt] at he
                have hln : (nmRows (nmsL ((l.take k).filter (excT (trL l))))).length ≤ 1000 := by
                  simp; exact Nat.le_trans (List.length_filter_le _ _) (by simp; omega)
                refine W.of_WE hT mixed M_f28 _ (by kernel_rfl) ?_
                cases hx : excT (trL l) l[k]
                · have hsn : (l.take (k + 1)).filter (excT (trL l)) = (l.take k).filter (excT (trL l)) := by
                    rw [take_snoc' l k hlt, List.filter_append]; simp [hx]
                  rw [hx] at he
                  rw [hsn]
                  simp [hlt, he, hw1]
                · have hsn : nmRows (nmsL ((l.take (k + 1)).filter (excT (trL l)))) = nmRows (nmsL ((l.take k).filter (excT (trL l)))) ++ [[.str l[k].n]] := by
                    rw [take_snoc' l k hlt, List.filter_append]; simp [hx, nmRows, nmsL, nmRow]
                  rw [hx] at he
                  rw [hsn]
                  generalize nmRows (nmsL ((l.take k).filter (excT (trL l)))) = R at *
                  simp [hlt, HD.row, he, hw1]
                  omega
              · have : k = l.length := by omega
                subst this
                refine W.of_WE hT mixed M_f28 _ (by kernel_rfl) ?_
                simp
                refine Wk.trans (Wk.freeze 0 (.sl 1 9 (nmRows (nmsL (excL l)))) (by simp [excL]) (by simp)) ?_
                exact norm_wk [] (by simp [wkOkx, tmOk, dfOk, hpOk])
          intro _
          refine W.of_WE hT mixed M_f28 _ (by kernel_rfl) ?_
          simp
        · rw [if_pos hz] at hh
          cases hh
          refine W.of_WE hT mixed M_f28 _ (by kernel_rfl) ?_
          simp [Try.f28, hck, hz]
      · cases hh
    · cases hh
  · cases hh
/-- Is the tree sound? (An error counts as soundness here: there is no name.) -/
def SSnd : List V → Option Res
  | [.rd 5 rows] => match hdsOf rows with
    | some l => if inL l ∧ chkT l = 0 then some ⟨.bool (!(l.any (excT (trL l)))), []⟩ else none
    | none => none
  | _ => none
theorem excL_len (l : List HD) : decide ((excL l).length = 0) = !(l.any (excT (trL l))) := by
  unfold excL
  cases h : l.any (excT (trL l))
  · have : l.filter (excT (trL l)) = [] := by
      rw [List.filter_eq_nil_iff]
      exact List.any_eq_false.1 h
    rw [this]; rfl
  · obtain ⟨x, hx, hp⟩ := List.any_eq_true.1 h
    have : 0 < (l.filter (excT (trL l))).length := List.length_pos_of_mem (List.mem_filter.2 ⟨hx, hp⟩)
    rw [decide_eq_false (by omega)]; rfl
theorem runs_ref21_Sound : ∀ args r, SSnd args = some r → Runs Try.prog 34 args r := by
  intro args r hh
  unfold SSnd at hh
  split at hh
  · rename_i rows
    split at hh
    · rename_i l hl
      split at hh
      · rename_i hin
        obtain ⟨hin, hz⟩ := hin
        have h1 := parse_eq hdOf_eq hl
        subst h1
        cases hh
        change Runs _ _ [.rd 5 (hRows l)] _
        have hs : SExcs [.rd 5 (hRows l)] = some ⟨.tup [.rd 1 (nmRows (nmsL (excL l))), .int .i64 0], []⟩ := by
          simp only [SExcs, hRows_parse]; rw [if_pos hin, if_neg (by omega)]
        have he := excL_len l
        have hT : (T0.add 28 SExcs).ok Try.prog := Tab.add_ok (T0_ok _) runs_ref21_Excess
        have hln : (nmRows (nmsL (excL l))).length = (excL l).length := by simp
        rw [← he, ← hln]
        generalize nmRows (nmsL (excL l)) = R at *
        refine Runs.of_body Try.func34 (by decide) rfl (by simp [Try.f34]) ?_
        refine W.of_WE hT mixed M0 _ (by kernel_rfl) ?_
        simp [Try.f34, hs]
      · cases hh
    · cases hh
  · cases hh

end Go.Proofs.Ytkcmgjagjbiinaa.AL
namespace Go.Proofs.Ytkcmgjagjbiinaa.AL
open Go
attribute [local simp] qf cv qbin ibin sbin qun retPost rvOk ctV ctPost marksOk retV resAll resOf V.lt ltL V.ren renL V.exp V.exp1 cleanL V.clean closedL V.closed V.cells V.one V.tree
  loadV cellsAt isNC nilQ isSlD isIfD slNew ownRows ownCells V.isOwn slStore srcO qlook mlook mget mstr zval qnone qmake mput lmap isAggD placesOf fillV putCells lstore bound seqParts V.sh shL Blk.sh newV V.ok peqs peq srcRows qbytes byteSl appOk mmV mmR hidE V.fz fzL Blk.fz fzOk and_assoc
attribute [-simp] Int.not_le Int.not_lt Nat.not_le Nat.not_lt
/-- What the iterator does over a tree that turns meanwhile. -/
def DownG (l : List HD) (up : Bool) (c e q : Nat) (s : St) : Prop := s.hp c = some (.box 80 [.own q, .mrd (keysN (nmsL l)) (valsN l.length), .rd 1 (depRows l l.length)]) ∧ s.hp e = some (.box 4 [.bool up]) ∧ ∃ rows, s.hp q = some (.sl 5 52 rows) ∧ rows.length = l.length
def DownD : Ct := fun vs s K _ => ∃ (b c e q : Nat) (l : List HD) (up : Bool), vs = [.yld b, .ptr c 0, .ptr e 0] ∧ l.length ≤ 1000 ∧ ∃ I : Nat → St → Prop, I 0 s ∧ (∀ k s0, I k s0 → DownG l up c e q s0) ∧
    (∀ k i s0 s', (downL l up)[k]? = some i → i < l.length → I k s0 → Same0 s0 s' → CallY Try.prog b s' [.int .i64 (i : Int)]
      (fun v s'' => (v = .bool true ∧ I (k + 1) s'') ∨ (v = .bool false ∧ ∀ s3, Same0 s'' s3 → K (.tup []) s3)) noX) ∧
    (∀ s0 s', I (downL l up).length s0 → Same0 s0 s' → K (.tup []) s')
/-- Before a round of the iterator. -/
structure DnO2 (l : List HD) (up : Bool) (I : Nat → St → Prop) where
  u : St
  k : Nat
  le : k ≤ l.length
  inv : ∃ s0, I (preD l up k).length s0 ∧ Same0 s0 u
structure DnI2 (l : List HD) (up : Bool) (I : Nat → St → Prop) (k : Nat) where
  u : St
  i : Nat
  le : i ≤ l.length
  inv : ∃ s0, I (preD l up k ++ selD l up k i).length s0 ∧ Same0 s0 u
def dnT2 (b c e : Nat) (n k : Nat) : List (Nat × V) := [(0, .yld b), (1, .ptr c 0), (2, .ptr e 0), (9, .int .i64 (n : Int)), (10, .int .i64 (k : Int))]
theorem down1_ok2 {vs : List V} {s : St} {K X : V → St → Prop} (hh : DownD vs s K X) : CallW Try.prog 75 s vs K X := by
  obtain ⟨b, c, e, q, l, up, rfl, hlen, I, hI0, hG, hround, hfin⟩ := hh
  obtain ⟨g1, g2, rows0, g3, g4⟩ := hG 0 s hI0
  have hT : (T0.addY (Yself Try.prog)).ok Try.prog := Tab.addYself_ok (T0_ok _)
  refine CallW.of_body Try.func75 (by decide) rfl (by simp [Try.f75]) ?_
  refine W.seqE hT mixed M_f75 (by kernel_rfl) ?_
  simp [g1, g2, g3, g4]
  refine W.block (W.loop (ι := DnO2 l up I) (fun i => stF (dnT2 b c e l.length i.k) i.u 42) (fun i => l.length - i.k) ⟨bump s, 0, by omega, s, by simpa [preD] using hI0, by simp, by simp⟩ ?_ ?_)
  · refine Wk.stF _ _ _ ?_ ?_ ?_ ?_ ?_ ?_ ?_
    all_goals simp [dnT2, St.enter, initTm]
  · rintro ⟨u, k, hk, s0, hI, hsame⟩
    obtain ⟨hsame1, hsame2⟩ := hsame
    obtain ⟨u1, u2, rows1, u3, u4⟩ := hG _ s0 hI
    rw [← hsame1] at u1 u2 u3
    refine W.seqE hT mixed M_f75 (by kernel_rfl) ?_
    simp [dnT2]
    by_cases hlt : k < l.length
    · have hw1 : IntKind.i64.wrap ((k : Int) + 1) = k + 1 := wr_i64 (by omega) (by omega)
      refine W.seqE hT mixed M_f75 (by kernel_rfl) ?_
      simp [hlt]
      obtain ⟨D, hD⟩ : ∃ D, D = rndD l.length up k := ⟨_, rfl⟩
      refine W.seq (W.block ?_)
      refine W.seqE hT mixed M_f75 (by kernel_rfl) ?_
      simp
      refine W.seqE hT mixed M_f75 (by kernel_rfl) ?_
      simp
      refine W.cutS (stF (dnT2 b c e l.length k ++ [(5, .int .i64 (D : Int))]) (bump u) 42) ?_ ?_
      · refine W.of_WE hT mixed M_f75 _ (by kernel_rfl) ?_
        cases up
        · have : D = k := hD
          subst this
          simp [u1, u2]
          refine Wk.stF _ _ _ ?_ ?_ ?_ ?_ ?_ ?_ ?_
          all_goals simp [dnT2]
        · have : D = l.length - 1 - k := hD
          have hw2 : IntKind.i64.wrap ((l.length : Int) - 1) = (l.length : Int) - 1 := wr_i64 (by omega) (by omega)
          have hw3 : IntKind.i64.wrap ((l.length : Int) - 1 - k) = (D : Int) := by rw [wr_i64 (by omega) (by omega)]; omega
          simp [u1, u2, u3, u4, hw2, hw3]
          refine Wk.stF _ _ _ ?_ ?_ ?_ ?_ ?_ ?_ ?_
          all_goals simp [dnT2]
      · refine W.seqE hT mixed M_f75 (by kernel_rfl) ?_
        simp [dnT2, u1, u2, u3, u4]
        refine W.block (W.loop (ι := DnI2 l up I k) (fun i => stF (dnT2 b c e l.length k ++ [(5, .int .i64 (D : Int)), (23, .int .i64 (l.length : Int)), (24, .int .i64 (i.i : Int))]) i.u 42) (fun i => l.length - i.i) ⟨bump (bump u), 0, by omega, s0, by simpa [selD] using hI, by simp [hsame1], by simp; omega⟩ ?_ ?_)
        · refine Wk.stF _ _ _ ?_ ?_ ?_ ?_ ?_ ?_ ?_
          all_goals simp [dnT2]
        · rintro ⟨w, i, hi, s1, hI1, hs1, hs2⟩
          obtain ⟨v1, v2, rows2, v3, v4⟩ := hG _ s1 hI1
          rw [← hs1] at v1 v2 v3
          by_cases hil : i < l.length
          · have hw3 : IntKind.i64.wrap ((i : Int) + 1) = i + 1 := wr_i64 (by omega) (by omega)
            have hdn : i < (depRows l l.length).length := by simp; exact hil
            refine W.of_WE hT mixed M_f75 _ (by kernel_rfl) ?_
            by_cases hd : depN l i = D
            · simp [dnT2, hil, v1, v2, v3, v4, depRow, hd, Yself]
              show CallY Try.prog _ _ _ _ _
              refine CallY.mono (hround _ i s1 _ (down_at hlt hil (hd.trans hD)) hil hI1 ⟨hs1, by simp; omega⟩) ?_ (fun _ _ h => h.elim)
              rintro v s2 (⟨rfl, hI2⟩ | ⟨rfl, hK⟩)
              · simp [hw3]
                refine ⟨⟨bump s2, i + 1, by omega, s2, ?_, by simp, by simp⟩, ?_, by simp; omega⟩
                · rw [selD_succ, if_pos (hd.trans hD)]; simpa [Nat.add_assoc] using hI2
                · refine Wk.stF _ _ _ ?_ ?_ ?_ ?_ ?_ ?_ ?_
                  all_goals first | (simp [dnT2]; done) | (simp [dnT2]; omega)
              · simp
                refine hK _ ⟨?_, ?_⟩
                · simp [St.unmark]
                · simp [St.unmark]; omega
            · have hdi : ¬ (depN l i : Int) = D := by omega
              simp [dnT2, hil, v1, v2, v3, v4, depRow, hdi, hw3]
              refine ⟨⟨bump w, i + 1, by omega, s1, ?_, by simp [hs1], by simp; omega⟩, ?_, by simp; omega⟩
              · rw [selD_succ, if_neg (by rw [← hD]; exact hd)]; exact hI1
              · refine Wk.stF _ _ _ ?_ ?_ ?_ ?_ ?_ ?_ ?_
                all_goals first | (simp [dnT2]; done) | (simp [dnT2]; omega)
          · have hie : i = l.length := by omega
            subst hie
            refine W.of_WE hT mixed M_f75 _ (by kernel_rfl) ?_
            simp [dnT2]
            refine W.of_WE hT mixed M_f75 _ (by kernel_rfl) ?_
            simp [hw1]
            refine ⟨⟨bump w, k + 1, by omega, s1, ?_, by simp [hs1], by simp; omega⟩, ?_, by simp; omega⟩
            · rw [preD_succ]; exact hI1
            · refine Wk.stF _ _ _ ?_ ?_ ?_ ?_ ?_ ?_ ?_
              all_goals first | (simp [dnT2]; done) | (simp [dnT2]; omega)
    · have hke : k = l.length := by omega
      subst hke
      refine W.of_WE hT mixed M_f75 _ (by kernel_rfl) ?_
      simp
      refine hfin s0 _ hI ⟨?_, ?_⟩
      · simp [St.unmark, hsame1]
      · simp [St.unmark]; omega
/-- The iterator made over a tree that is the caller's own. -/
def DownW : Ct := fun vs s K _ => ∃ (q : Nat) (ks vs' : List V) (d : List (List V)) (up : Bool), vs = [.agg [.own q, .mrd ks vs', .rd 1 d], .bool up] ∧
  ∀ c e s', (∀ x, x < s.nx → s'.hp x = s.hp x) → s.nx ≤ c → c < s'.nx → s.nx ≤ e → e < s'.nx → c ≠ e → s'.hp c = some (.box 80 [.own q, .mrd ks vs', .rd 1 d]) → s'.hp e = some (.box 4 [.bool up]) → K (.fn 75 [] [.ptr c 0, .ptr e 0]) s'
theorem down_ok2 {vs : List V} {s : St} {K X : V → St → Prop} (hh : DownW vs s K X) : CallW Try.prog 48 s vs K X := by
  obtain ⟨q, ks, vs', d, up, rfl, hK⟩ := hh
  refine CallW.of_body Try.func48 (by decide) rfl (by simp [Try.f48]) ?_
  refine W.of_WE (T0_ok _) mixed M0 _ (by kernel_rfl) ?_
  simp [Try.f48]
  refine hK s.nx (s.nx + 8) _ (fun x hx => ?_) (by omega) ?_ (by omega) ?_ (by omega) ?_ ?_
  · have z := fresh2 hx
    simp [St.unmark, z]
  · simp [St.unmark]; omega
  · simp [St.unmark]
  · simp [St.unmark]
  · simp [St.unmark]
/-- Whom a tree of the caller's own names as the parent. -/
def ParC : Ct := fun vs s K _ => ∃ (q : Nat) (l : List HD) (m : List ByteArray) (d : List (List V)) (h : HD), vs = [.agg [.own q, .mrd (keysN m) (valsN m.length), .rd 1 d], .agg h.row] ∧ s.hp q = some (.sl 5 52 (hRows l)) ∧ q < s.nx ∧ l.length = m.length ∧ l.length ≤ 1000 ∧
  ∀ s', s.nx ≤ s'.nx → (∀ x, x < s.nx → s'.hp x = s.hp x) → K (match plc m h.p with
    | none => .tup [.agg [.str .empty, .str .empty, .nils, .nils, .nils], .bool false]
    | some i => .tup [.agg (l.getD i HD0).row, .bool true]) s'
theorem parent_ok2 {vs : List V} {s : St} {K X : V → St → Prop} (hh : ParC vs s K X) : CallW Try.prog 49 s vs K X := by
  obtain ⟨q, l, m, d, h, rfl, hq, hqn, hlm, hlen, hK⟩ := hh
  have hm := mget_plc m h.p
  have zq := fresh2 hqn
  have n0 := selfn s.nx
  have n8 := selfn (s.nx + 8)
  refine CallW.of_body Try.func49 (by decide) rfl (by simp [Try.f49]) ?_
  refine W.of_WE (T0_ok _) mixed M0 _ (by kernel_rfl) ?_
  cases hp : plc m h.p with
  | none =>
    rw [hp] at hK hm
    simp only [Option.map_none] at hm
    simp [-zval, Try.f49, HD.row, hm, n0, n8]
    refine hK _ ?_ fun x hx => ?_
    · simp [St.unmark]; omega
    · have z := fresh2 hx
      simp [St.unmark, z]
  | some i =>
    rw [hp] at hK hm
    obtain ⟨hi, _⟩ := plc_some hp
    have hil : i < l.length := by omega
    simp only [hd_get hil, HD.row] at hK
    simp only [Option.map_some] at hm
    simp [-zval, Try.f49, HD.row, hm, hq, zq, hil, n0, n8]
    refine hK _ ?_ fun x hx => ?_
    · simp [St.unmark]; omega
    · have z := fresh2 hx
      simp [St.unmark, z]

end Go.Proofs.Ytkcmgjagjbiinaa.AL
namespace Go.Proofs.Ytkcmgjagjbiinaa.AL
open Go
/-! A region that draws its order, where a contract call may come before or behind one other operation. -/
section
variable {P : Program} [Gl P] {T : Tab} {ops : Array Oper} {B : Array Nat}
def WSeq (P : Program) [Gl P] (T : Tab) (ops : Array Oper) (B : Array Nat) (K : St → Prop) : List Nat → St → Prop
  | [], s => K s
  | i :: r, s => AStepI P T ops B i (WSeq P T ops B K r) s
def seqOk (P : Program) (ops : Array Oper) (B : Array Nat) : List Nat → Array Bool → Bool
  | [], _ => true
  | k :: r, listed => (ops[k]?.isSome && (Region.ready .any ops listed).contains k && !(B.getD k 0).testBit k &&
      ((List.range ops.size).all fun j => j == k || listed.getD j true || (B.getD j 0).testBit k ||
        (!isCut ops B k && !isCut ops B j && match ops[k]?, ops[j]? with
        | some ok, some oj => swapOk P ops ok oj || hardOk B ops.size k j ok oj ops
        | _, _ => false))) && seqOk P ops B r (listed.setIfInBounds k true)
def setL (l : List Nat) (listed : Array Bool) : Array Bool := l.foldl (fun a i => a.setIfInBounds i true) listed
theorem AStepI_mono' {i : Nat} {K K' : St → Prop} (h : ∀ s, K s → K' s) {s : St} (h1 : AStepI P T ops B i K s) : AStepI P T ops B i K' s := by
  unfold AStepI at h1 ⊢
  cases ho : ops[i]? with
  | none => rw [ho] at h1; exact h _ h1
  | some o =>
    rw [ho] at h1
    simp only at h1 ⊢
    by_cases hc : isCut ops B i = true
    · rw [if_pos hc] at h1 ⊢
      obtain ⟨K0, hk, h2⟩ := h1
      exact ⟨K0, fun s' hs => h _ (hk s' hs), h2⟩
    · rw [if_neg hc] at h1 ⊢
      exact ⟨AStep_mono h h1.1, h1.2⟩
theorem aAny_seq (hB : masksOk ops B = true) {Q : St → Prop} : ∀ (l : List Nat) (fuel : Nat) (listed : Array Bool) (s : St), Closed B listed → seqOk P ops B l listed = true →
    WSeq P T ops B (fun s' => Closed B (setL l listed) → aAny P T ops B Q fuel (setL l listed) s') l s → aAny P T ops B Q (l.length + fuel) listed s
  | [], fuel, listed, s, hcl, _, h => by simpa [WSeq, setL] using h hcl
  | k :: l, fuel, listed, s, hcl, hx, h => by
    simp only [seqOk, Bool.and_eq_true] at hx
    obtain ⟨⟨⟨⟨h0, hr⟩, hirr⟩, hall⟩, hrest⟩ := hx
    obtain ⟨o, h0⟩ := Option.isSome_iff_exists.1 h0
    have hr' : k ∈ Region.ready .any ops listed := by simpa using hr
    have step : ∀ s', WSeq P T ops B (fun s' => Closed B (setL (k :: l) listed) → aAny P T ops B Q fuel (setL (k :: l) listed) s') l s' → aAny P T ops B Q (l.length + fuel) (listed.setIfInBounds k true) s' := fun s' hs' =>
      aAny_seq hB l fuel _ s' (hcl.set hB hr') hrest hs'
    rw [show (k :: l).length + fuel = (l.length + fuel) + 1 by simp; omega]
    refine aAny_first hB h0 (by simpa using hirr) (l.length + fuel) listed s hcl (fun j oj hj hjk hun => ?_) hr' (AStepI_mono' step h)
    have h1 := List.all_eq_true.1 hall j (List.mem_range.2 (Array.getElem?_eq_some_iff.1 hj).1)
    simp only [h0, hj, Bool.or_eq_true, Bool.and_eq_true, beq_iff_eq, hjk, hun, false_or] at h1
    rcases h1 with (h1 | h1) | h1
    · cases h1
    · exact .inl h1
    · exact .inr ⟨by simpa using h1.1.1, by simpa using h1.1.2, by rw [Bool.or_eq_true]; exact h1.2⟩
def twoOk (P : Program) (ops : Array Oper) (B : Array Nat) (l0 : List Nat) (c d : Nat) (lA lB : List Nat) : Bool :=
  masksOk ops B && seqOk P ops B l0 (Array.replicate ops.size false) && (Region.ready .any ops (setL l0 (Array.replicate ops.size false)) == [c, d]) &&
    seqOk P ops B lA ((setL l0 (Array.replicate ops.size false)).setIfInBounds c true) && seqOk P ops B lB ((setL l0 (Array.replicate ops.size false)).setIfInBounds d true) &&
    (Region.ready .any ops (setL lA ((setL l0 (Array.replicate ops.size false)).setIfInBounds c true))).isEmpty &&
    (Region.ready .any ops (setL lB ((setL l0 (Array.replicate ops.size false)).setIfInBounds d true))).isEmpty &&
    (l0.length + (lA.length + 1) == ops.size) && (lB.length == lA.length)
theorem WSeq_mono {K K' : St → Prop} (h : ∀ s, K s → K' s) : ∀ (l : List Nat) {s : St}, WSeq P T ops B K l s → WSeq P T ops B K' l s
  | [], s, h1 => h _ h1
  | i :: r, s, h1 => AStepI_mono' (fun s' => WSeq_mono h r) h1
theorem W.region_two (hT : T.ok P) (hm : P.follows .mixedOrders = true) {id : Nat} {s : St} {Q : AX → St → Prop} (B : Array Nat) (l0 : List Nat) (c d : Nat) (lA lB : List Nat) (hok : twoOk P ops B l0 c d lA lB = true)
    (h : WSeq P T ops B (fun s1 => AStepI P T ops B c (WSeq P T ops B (fun s' => Q .normal { s' with nx := s'.nx + 8 * ops.size }) lA) s1 ∧
      AStepI P T ops B d (WSeq P T ops B (fun s' => Q .normal { s' with nx := s'.nx + 8 * ops.size }) lB) s1) l0 s) : W P (.region id ops true) s Q := by
  intro X E a hs
  simp only [twoOk, Bool.and_eq_true, beq_iff_eq, List.isEmpty_iff] at hok
  obtain ⟨⟨⟨⟨⟨⟨⟨⟨hB, h0⟩, hrd⟩, hA⟩, hBB⟩, heA⟩, heB⟩, hlen⟩, hlen2⟩ := hok
  refine wpIn_region_any hm ?_
  obtain ⟨hS, hev⟩ := drawn_rel hs
  have hcl0 : Closed B (Array.replicate ops.size false) := fun j hj => by
    exfalso
    rcases Nat.lt_or_ge j ops.size with h' | h'
    · simp [h'] at hj
    · simp [Array.getElem?_eq_none, h'] at hj
  have key : aAny P T ops B (fun s' => Q .normal { s' with nx := s'.nx + 8 * ops.size }) ops.size (Array.replicate ops.size false) s := by
    have k0 := aAny_seq (P := P) (T := T) (Q := fun s' => Q .normal { s' with nx := s'.nx + 8 * ops.size }) hB l0 (lA.length + 1) _ s hcl0 h0 (WSeq_mono (fun s1 hs1 hcl => ?_) l0 h)
    · rwa [hlen] at k0
    have hcc : c ∈ Region.ready .any ops (setL l0 (Array.replicate ops.size false)) := by rw [hrd]; simp
    have hdd : d ∈ Region.ready .any ops (setL l0 (Array.replicate ops.size false)) := by rw [hrd]; simp
    refine ⟨fun e => (by rw [e] at hrd; cases hrd), fun i hi => ?_⟩
    rw [hrd] at hi
    simp only [List.mem_cons, List.not_mem_nil, or_false] at hi
    rcases hi with rfl | rfl
    · refine AStepI_mono' (fun s2 h2 => ?_) hs1.1
      have := aAny_seq hB lA 0 _ s2 (hcl.set hB hcc) hA (WSeq_mono (fun s3 h3 _ => ⟨heA, h3⟩) lA h2)
      simpa using this
    · refine AStepI_mono' (fun s2 h2 => ?_) hs1.2
      have := aAny_seq hB lB 0 _ s2 (hcl.set hB hdd) hBB (WSeq_mono (fun s3 h3 _ => ⟨heB, h3⟩) lB h2)
      rw [← hlen2]
      simpa using this
  exact aAny_sound (ops := ops) (B := B) hT (Q := Q) ops.size (Array.replicate ops.size false) (by simp) hS.toCRel (fun b hb => .inl (hs.nx b hb)) hev key
end
section
variable {P : Program} [Gl P] {T : Tab} {ops : Array Oper} {B : Array Nat}
theorem AStepI_of {i : Nat} {o : Oper} {K : St → Prop} {s : St} (ho : ops[i]? = some o) (hc : isCut ops B i = false) (hg : o.guard = none)
    (hr : hcR (hidP B (B.getD ops.size 0) ops.size s.nx i) (opR P T.q o.dst (s.nx + 8 * i) (vis B (B.getD ops.size 0) s.nx i s.hp) s o.op))
    (h : orK (opR P T.q o.dst (s.nx + 8 * i) (vis B (B.getD ops.size 0) s.nx i s.hp) s o.op) o.dst s K noX) : AStepI P T ops B i K s := by
  unfold AStepI
  rw [ho]
  simp only
  rw [if_neg (by rw [hc]; simp)]
  refine ⟨?_, ?_⟩
  · unfold AStep gStep
    rw [hg]; exact h
  · unfold HC
    rw [hg]; exact hr
theorem AStepI_cut {i : Nat} {o : Oper} {K : St → Prop} {s : St} (ho : ops[i]? = some o) (hc : isCut ops B i = true) (hg : o.guard = none)
    (h : orT (opR P T o.dst (s.nx + 8 * ops.size) (s.setN (s.nx + 8 * ops.size)).hp (s.setN (s.nx + 8 * ops.size)) o.op) o.dst (s.setN (s.nx + 8 * ops.size)) K noX) : AStepI P T ops B i K s := by
  unfold AStepI
  rw [ho]
  simp only
  rw [if_pos hc]
  refine ⟨K, fun _ h => h, ?_⟩
  unfold CStep0 gStep
  rw [hg]; exact h
end
end Go.Proofs.Ytkcmgjagjbiinaa.AL
