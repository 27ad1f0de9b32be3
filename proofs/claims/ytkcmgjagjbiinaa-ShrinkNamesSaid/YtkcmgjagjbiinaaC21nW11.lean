import Derived.Test.YtkcmgjagjbiinaaC21nW10
import Derived.Test.YtkcmgjagjbiinaaC21nW8
/- What single functions compute: a part of the proof; no conditions. -/
set_option linter.unusedVariables false
set_option linter.unusedSimpArgs false
set_option maxRecDepth 100000
namespace Go.Proofs.Ytkcmgjagjbiinaa.AL
open Go
attribute [local simp] qf cv qbin ibin sbin qun retPost rvOk ctV ctPost marksOk retV resAll resOf V.lt ltL V.ren renL V.exp V.exp1 cleanL V.clean closedL V.closed V.cells V.one V.tree
  loadV cellsAt isNC nilQ isSlD isIfD slNew ownRows ownCells V.isOwn slStore srcO qlook mlook mget mstr zval qnone qmake mput lmap isAggD placesOf fillV putCells lstore bound seqParts V.sh shL Blk.sh newV V.ok peqs peq srcRows qbytes byteSl appOk mmV mmR hidE V.fz fzL Blk.fz fzOk and_assoc
attribute [-simp] Int.not_le Int.not_lt Nat.not_le Nat.not_lt
def SEachInt : List V → Option Res
  | [.agg ca, .agg cb, .fn 56 [] []] => match rsOf ca, rsOf cb with
    | some a, some b => if inRS a ∧ inRS b ∧ lenRS 1000000 a ∧ lenRS 1000000 b then
        (if orE2 (chkR a) (chkR b) ≠ 0 then some ⟨.tup [.agg [.nils, .nils, .nils], .int .i64 (orE2 (chkR a) (chkR b))], []⟩
          else if big3 (interS a.l4 b.l4) (interS a.l6 b.l6) (interS (a.la.map wideS) (b.la.map wideS)) = true then some ⟨.tup [.agg [.nils, .nils, .nils], .int .i64 4], []⟩
          else some ⟨.tup [.agg [.own 0, .own 1, .own 2], .int .i64 0], [.sl 4 101 (sRows (interS a.l4 b.l4)), .sl 4 101 (sRows (interS a.l6 b.l6)), .sl 2 68 (aRows ((interS (a.la.map wideS) (b.la.map wideS)).map narS))]⟩) else none
    | _, _ => none
  | _ => none
def M_f55 : Md := fun i => if i = 1 then some #[0, 1, 0, 7, 15, 31, 63] else if i = 4 then some #[0, 1, 0, 7, 0, 0, 63, 127] else if i = 8 then some #[0, 0, 0, 4, 12, 0, 32, 96, 254, 511, 1023] else some #[]
@[simp] theorem M_f55_eq {i : Nat} : M_f55 i = (if i = 1 then some #[0, 1, 0, 7, 15, 31, 63] else if i = 4 then some #[0, 1, 0, 7, 0, 0, 63, 127] else if i = 8 then some #[0, 0, 0, 4, 12, 0, 32, 96, 254, 511, 1023] else some #[]) := rfl
theorem runs_each_Int : ∀ args r, SEachInt args = some r → Runs Try.prog 55 args r := by
  intro args r hh
  unfold SEachInt at hh
  split at hh
  · rename_i ca cb
    split at hh
    · rename_i a b ha hb
      split at hh
      · rename_i hin
        obtain ⟨ia, ib, la, lb⟩ := hin
        have h1 := rsOf_eq ha
        have h2 := rsOf_eq hb
        subst h1 h2
        have ea := chkR_at ia la
        have eb := chkR_at ib lb
        have sa := sets_at ia la
        have sb := sets_at ib lb
        have hT : (((((T0.add 40 SChkR).add 57 SOr2).add 58 SSets).add 56 SInt).add 78 SMade).ok Try.prog :=
          Tab.add_ok (Tab.add_ok (Tab.add_ok (Tab.add_ok (Tab.add_ok (T0_ok _) runs_resource_Check) runs_cmp_Or_Errno) runs_resource_sets) runs_resource_inter) runs_made
        refine Runs.of_body Try.func55 (by decide) rfl (by simp [Try.f55]) ?_
        by_cases hz : orE2 (chkR a) (chkR b) = 0
        · rw [if_neg (by omega)] at hh
          have hca : chkR a = 0 := by unfold orE2 at hz; split at hz <;> omega
          have hcb : chkR b = 0 := by unfold orE2 at hz; rw [if_pos hca] at hz; exact hz
          have ka := chkR_len hca
          have kb := chkR_len hcb
          have l1 : (a.la.map wideS).length ≤ 200 := by rw [List.length_map]; exact ka.2.2
          have l2 : (b.la.map wideS).length ≤ 200 := by rw [List.length_map]; exact kb.2.2
          have wa : ∀ s ∈ a.la.map wideS, inSP s := fun s hs => by obtain ⟨t, ht, rfl⟩ := List.mem_map.1 hs; exact inSP_wide (ia.2.2 t ht)
          have wb : ∀ s ∈ b.la.map wideS, inSP s := fun s hs => by obtain ⟨t, ht, rfl⟩ := List.mem_map.1 hs; exact inSP_wide (ib.2.2 t ht)
          have u4 := int_at (a := a.l4) (b := b.l4) ia.1 ib.1 ka.1 kb.1
          have u6 := int_at (a := a.l6) (b := b.l6) ia.2.1 ib.2.1 ka.2.1 kb.2.1
          have ua := int_at wa wb l1 l2
          have m := made_at (a := interS a.l4 b.l4) (b := interS a.l6 b.l6) (c := interS (a.la.map wideS) (b.la.map wideS)) (int_bd _ _ ka.1 kb.1) (int_bd _ _ ka.2.1 kb.2.1) (int_bd _ _ l1 l2)
          rw [hca] at ea
          rw [hcb] at eb
          simp only [RS.cells] at *
          generalize interS a.l4 b.l4 = O4 at *
          generalize interS a.l6 b.l6 = O6 at *
          generalize interS (a.la.map wideS) (b.la.map wideS) = OA at *
          generalize sRows a.l4 = a4 at *
          generalize sRows a.l6 = a6 at *
          generalize aRows a.la = aa at *
          generalize sRows (a.la.map wideS) = aw at *
          generalize sRows b.l4 = b4 at *
          generalize sRows b.l6 = b6 at *
          generalize aRows b.la = ba at *
          generalize sRows (b.la.map wideS) = bw at *
          refine W.seqE hT mixed M_f55 (by kernel_rfl) ?_
          simp [Try.f55]
          refine W.cut True [(2, .fn 56 [] []), (3, .ptr 0 0), (4, .ptr 1 0), (6, .ptr 2 0)] [.box 26 [.rd 4 a4, .rd 4 a6, .rd 2 aa], .box 26 [.rd 4 b4, .rd 4 b6, .rd 2 ba], .box 26 [.nils, .nils, .nils]] 44 ?_ ?_
          · refine W.of_WE hT mixed M_f55 _ (by kernel_rfl) ?_
            simp [ea, eb, SOr2]
          intro _
          refine W.cut True [(2, .fn 56 [] []), (6, .ptr 0 0), (9, .ptr 1 0), (10, .ptr 2 0)] [.box 26 [.nils, .nils, .nils], .box 110 [.rd 4 a4, .rd 4 a6, .rd 4 aw], .box 110 [.rd 4 b4, .rd 4 b6, .rd 4 bw]] 44 ?_ ?_
          · refine W.of_WE hT mixed M_f55 _ (by kernel_rfl) ?_
            simp [sa, sb]
          intro _
          refine W.wk (Wk.freeze 2 (.box 110 [.rd 4 b4, .rd 4 b6, .rd 4 bw]) (by simp) (by simp)) ?_
          refine W.cut True [(6, .ptr 0 0), (9, .ptr 1 0)] [.box 26 [.nils, .nils, .nils], .box 110 [.rd 4 (sRows O4), .rd 4 (sRows O6), .rd 4 (sRows OA)]] 44 ?_ ?_
          · refine W.seqE hT mixed M_f55 (by kernel_rfl) ?_
            simp [Try.f55]
            refine W.block (W.for (fun _ => True) (fun k => [(2, .fn 56 [] []), (6, .ptr 0 0), (9, .ptr 1 0), (10, .rptr [.rd 4 b4, .rd 4 b6, .rd 4 bw] 0), (26, .int .i64 k)])
              (fun k => [.box 26 [.nils, .nils, .nils], .box 110 [.rd 4 (if 0 < k then sRows O4 else a4), .rd 4 (if 1 < k then sRows O6 else a6), .rd 4 (if 2 < k then sRows OA else aw)]]) 44 3 trivial ?_ ?_)
            · simp
            · intro k hk _
              match k, hk with
              | 0, _ =>
                refine W.seqE hT mixed M_f55 (by kernel_rfl) ?_
                simp
                refine W.seqE hT mixed M_f55 (by kernel_rfl) ?_
                simp
                refine W.cut True [(2, .fn 56 [] []), (6, .ptr 0 0), (9, .ptr 1 0), (10, .rptr [.rd 4 b4, .rd 4 b6, .rd 4 bw] 0), (26, .int .i64 0)] [.box 26 [.nils, .nils, .nils], .box 110 [.own 2, .rd 4 a6, .rd 4 aw], .sl 4 101 (sRows O4)] 44 ?_ ?_
                · refine W.of_WE hT mixed M_f55 _ (by kernel_rfl) ?_
                  simp [u4]
                intro _
                refine W.wk (Wk.freeze 2 (.sl 4 101 (sRows O4)) (by simp) (by simp)) ?_
                refine W.of_WE hT mixed M_f55 _ (by kernel_rfl) ?_
                simp
                rfl
              | 1, _ =>
                refine W.seqE hT mixed M_f55 (by kernel_rfl) ?_
                simp
                refine W.seqE hT mixed M_f55 (by kernel_rfl) ?_
                simp
                refine W.cut True [(2, .fn 56 [] []), (6, .ptr 0 0), (9, .ptr 1 0), (10, .rptr [.rd 4 b4, .rd 4 b6, .rd 4 bw] 0), (26, .int .i64 1)] [.box 26 [.nils, .nils, .nils], .box 110 [.rd 4 (sRows O4), .own 2, .rd 4 aw], .sl 4 101 (sRows O6)] 44 ?_ ?_
                · refine W.of_WE hT mixed M_f55 _ (by kernel_rfl) ?_
                  simp [u6]
                intro _
                refine W.wk (Wk.freeze 2 (.sl 4 101 (sRows O6)) (by simp) (by simp)) ?_
                refine W.of_WE hT mixed M_f55 _ (by kernel_rfl) ?_
                simp
                rfl
              | 2, _ =>
                refine W.seqE hT mixed M_f55 (by kernel_rfl) ?_
                simp
                refine W.seqE hT mixed M_f55 (by kernel_rfl) ?_
                simp
                refine W.cut True [(2, .fn 56 [] []), (6, .ptr 0 0), (9, .ptr 1 0), (10, .rptr [.rd 4 b4, .rd 4 b6, .rd 4 bw] 0), (26, .int .i64 2)] [.box 26 [.nils, .nils, .nils], .box 110 [.rd 4 (sRows O4), .rd 4 (sRows O6), .own 2], .sl 4 101 (sRows OA)] 44 ?_ ?_
                · refine W.of_WE hT mixed M_f55 _ (by kernel_rfl) ?_
                  simp [ua]
                intro _
                refine W.wk (Wk.freeze 2 (.sl 4 101 (sRows OA)) (by simp) (by simp)) ?_
                refine W.of_WE hT mixed M_f55 _ (by kernel_rfl) ?_
                simp
                rfl
              | 3, _ =>
                refine W.of_WE hT mixed M_f55 _ (by kernel_rfl) ?_
                simp
          intro _
          refine W.of_WE hT mixed M_f55 _ (by kernel_rfl) ?_
          cases hb : big3 O4 O6 OA
          · rw [hb] at hh m
            cases hh
            simp only [Bool.false_eq_true, if_false] at m
            simp [Try.f55, m]
            exact ⟨10, 11, by decide, 12, by decide, by decide, by simp, by simp, by simp, rfl, rfl, rfl⟩
          · rw [hb] at hh m
            cases hh
            simp only [if_true] at m
            simp [Try.f55, m]
        · rw [if_pos hz] at hh
          cases hh
          simp only [RS.cells] at *
          refine W.of_WE hT mixed M_f55 _ (by kernel_rfl) ?_
          unfold orE2 at hz
          by_cases hca : chkR a = 0
          · rw [if_pos hca] at hz
            simp [Try.f55, ea, eb, SOr2, hca, hz, orE2]
          · simp [Try.f55, ea, eb, SOr2, hca, orE2]
      · cases hh
    · cases hh
  · cases hh

end Go.Proofs.Ytkcmgjagjbiinaa.AL
namespace Go.Proofs.Ytkcmgjagjbiinaa.AL
open Go
attribute [local simp] qf cv qbin ibin sbin qun retPost rvOk ctV ctPost marksOk retV resAll resOf V.lt ltL V.ren renL V.exp V.exp1 cleanL V.clean closedL V.closed V.cells V.one V.tree
  loadV cellsAt isNC nilQ isSlD isIfD slNew ownRows ownCells V.isOwn slStore srcO qlook mlook mget mstr zval qnone qmake mput lmap isAggD placesOf fillV putCells lstore bound seqParts V.sh shL Blk.sh newV V.ok peqs peq srcRows qbytes byteSl appOk mmV mmR hidE V.fz fzL Blk.fz fzOk and_assoc
attribute [-simp] Int.not_le Int.not_lt Nat.not_le Nat.not_lt
def SOInt : List V → Option Res
  | [.agg ca, .agg cb] => SEachInt [.agg ca, .agg cb, .fn 56 [] []]
  | _ => none
theorem eachInt_cases {a b : RS} {r : Res} (h : SOInt [.agg a.cells, .agg b.cells] = some r) :
    (∃ c, r = ⟨.tup [.agg [.nils, .nils, .nils], .int .i64 c], []⟩) ∨ ∃ A B C, r = ⟨.tup [.agg [.own 0, .own 1, .own 2], .int .i64 0], [.sl 4 101 (sRows A), .sl 4 101 (sRows B), .sl 2 68 (aRows C)]⟩ := by
  simp only [SOInt, SEachInt, rsOf_cells] at h
  split at h
  · split at h
    · cases h; exact .inl ⟨_, rfl⟩
    · split at h
      · cases h; exact .inl ⟨_, rfl⟩
      · cases h; exact .inr ⟨_, _, _, rfl⟩
  · cases h
theorem runs_resource_Int : ∀ args r, SOInt args = some r → Runs Try.prog 24 args r := by
  intro args r hh
  unfold SOInt at hh
  split at hh
  · rename_i ca cb
    obtain ⟨a, ha⟩ : ∃ a, rsOf ca = some a := by
      cases h : rsOf ca with
      | none => simp [SEachInt, h] at hh
      | some a => exact ⟨a, rfl⟩
    obtain ⟨b, hb⟩ : ∃ b, rsOf cb = some b := by
      cases h : rsOf cb with
      | none => simp [SEachInt, ha, h] at hh
      | some b => exact ⟨b, rfl⟩
    have h1 := rsOf_eq ha
    have h2 := rsOf_eq hb
    subst h1 h2
    have hT : (T0.add 55 SEachInt).ok Try.prog := Tab.add_ok (T0_ok _) runs_each_Int
    have hc := eachInt_cases (a := a) (b := b) hh
    refine Runs.of_body Try.func24 (by decide) rfl (by simp [Try.f24]) ?_
    simp only [RS.cells] at hh ⊢
    refine W.of_WE hT mixed M0 _ (by kernel_rfl) ?_
    rcases hc with ⟨c, rfl⟩ | ⟨A, B, C, rfl⟩
    · simp [Try.f24, hh]
    · simp [Try.f24, hh]
      refine ⟨48, 49, by decide, 50, by decide, by decide, ?_⟩
      simp
  · cases hh

end Go.Proofs.Ytkcmgjagjbiinaa.AL
namespace Go.Proofs.Ytkcmgjagjbiinaa.AL
open Go
attribute [local simp] qf cv qbin ibin sbin qun retPost rvOk ctV ctPost marksOk retV resAll resOf V.lt ltL V.ren renL V.exp V.exp1 cleanL V.clean closedL V.closed V.cells V.one V.tree
  loadV cellsAt isNC nilQ isSlD isIfD slNew ownRows ownCells V.isOwn slStore srcO qlook mlook mget mstr zval qnone qmake mput lmap isAggD placesOf fillV putCells lstore bound seqParts V.sh shL Blk.sh newV V.ok peqs peq srcRows qbytes byteSl appOk mmV mmR hidE V.fz fzL Blk.fz fzOk and_assoc
attribute [-simp] Int.not_le Int.not_lt Nat.not_le Nat.not_lt
def intR (a b : RS) : RS := ⟨interS a.l4 b.l4, interS a.l6 b.l6, (interS (a.la.map wideS) (b.la.map wideS)).map narS⟩
def bothI (a b : List HD) (i : Nat) : RS := intR (a.getD i HD0).r (b.getD i HD0).r
def bothL (a b : List HD) : List RS := (List.range a.length).map (bothI a b)
@[simp] theorem bothL_len (a b : List HD) : (bothL a b).length = a.length := by simp [bothL]
theorem bothL_get {a b : List HD} {i : Nat} (h : i < a.length) : (bothL a b)[i]? = some (bothI a b i) := by simp [bothL, h]
def resI (b : List HD) (i : Nat) : RS := (b.getD i HD0).r
/-- The steps from one tree to the other. -/
def planS (a b : List HD) : List SO :=
  (downL a false).foldl (fun st i => addS st (b.getD i HD0) (bothI a b i) (resI b i)) ((downL a true).foldl (fun st i => addS st (a.getD i HD0) (bothI a b i) (bothI a b i)) [])
def planE (a b : List HD) : Int :=
  if chkT a ≠ 0 then chkT a else if chkT b ≠ 0 then chkT b else if shpB a b = false then 2 else if (a.any (excT (trL a)) || b.any (excT (trL b))) = true then 26 else 0
def small (l : List HD) : Prop := ∀ h ∈ l, lenRS 100 h.r
instance (l : List HD) : Decidable (small l) := by unfold small; infer_instance
def SConE : List V → Option Res
  | [.rd 5 rows, .fn 43 [.agg ct] []] => match hdsOf rows, trOf ct with
    | some l, some t => if inT t ∧ inL l then some ⟨.bool (l.any (excT t)), []⟩ else none
    | _, _ => none
  | _ => none
theorem runs_ConE : ∀ args r, SConE args = some r → Runs Try.prog 44 args r := by
  intro args r hh
  unfold SConE at hh
  split at hh
  · rename_i rows ct
    split at hh
    · rename_i l t hl ht
      split at hh
      · rename_i hin
        have h1 := parse_eq hdOf_eq hl
        have h2 := trOf_eq ht
        subst h1 h2
        cases hh
        exact runs_ContainsFunc_hd (g := 43) (S := SExc) (fi := [.agg t.cells]) (caps := []) (p := excT t) (l := l) runs_shrink_excess (by simp [TR.cells]) rfl hin.2.2 (fun h hm => by
          simp only [List.append_nil, List.cons_append, List.nil_append]; exact exc_at hin.1 (hin.2.1 h hm))
      · cases hh
    · cases hh
  · cases hh
theorem conE_at {l : List HD} {t : TR} (h1 : inT t) (h2 : inL l) : SConE [.rd 5 (hRows l), .fn 43 [.agg t.cells] []] = some ⟨.bool (l.any (excT t)), []⟩ := by
  simp only [SConE, hRows_parse, trOf_cells]; rw [if_pos ⟨h1, h2⟩]
def SPlan : List V → Option Res
  | [.rd 5 ra, .rd 5 rb] => match hdsOf ra, hdsOf rb with
    | some a, some b => if inL a ∧ inL b ∧ (chkT a = 0 → small a) ∧ (chkT b = 0 → small b) then
        (if planE a b ≠ 0 then some ⟨.tup [.nils, .int .i64 (planE a b)], []⟩ else some ⟨.tup [.rd 4 (oRowsS (planS a b)), .int .i64 0], []⟩) else none
    | _, _ => none
  | _ => none
/-- The rows of what both have, so far. -/
def bRows (a b : List HD) (k : Nat) : List (List V) := (List.range a.length).map fun i => if i < k then (bothI a b i).cells else [.nils, .nils, .nils]
@[simp] theorem bRows_len (a b : List HD) (k : Nat) : (bRows a b k).length = a.length := by simp [bRows]
theorem bRows_zero (a b : List HD) : bRows a b 0 = List.replicate a.length [.nils, .nils, .nils] := by
  unfold bRows
  simp only [Nat.not_lt_zero, if_false]
  rw [List.map_const']; simp
theorem bRows_full (a b : List HD) : bRows a b a.length = rRows (bothL a b) := by
  unfold bRows rRows bothL
  rw [List.map_map]
  refine List.map_congr_left fun i hi => ?_
  rw [List.mem_range] at hi
  rw [if_pos hi]; rfl
theorem bRows_set {a b : List HD} {k : Nat} (h : k < a.length) : (bRows a b k).set k (bothI a b k).cells = bRows a b (k + 1) := by
  refine List.ext_getElem (by simp) fun i h1 h2 => ?_
  simp only [bRows, List.length_set, List.length_map, List.length_range] at h1 h2 ⊢
  rw [List.getElem_set]
  by_cases e : k = i
  · subst e; simp
  · rw [if_neg e]
    simp only [List.getElem_map, List.getElem_range]
    by_cases g : i < k
    · rw [if_pos g, if_pos (by omega)]
    · rw [if_neg g, if_neg (by omega)]
theorem bRows_tree (a b : List HD) (k : Nat) : ∀ r ∈ bRows a b k, ∀ c ∈ r, c.tree = true := by
  intro r hr c hc
  obtain ⟨i, _, rfl⟩ := List.mem_map.1 hr
  split at hc
  · simp only [RS.cells, List.mem_cons, List.not_mem_nil, or_false] at hc
    rcases hc with rfl | rfl | rfl <;> rfl
  · simp only [List.mem_cons, List.not_mem_nil, or_false] at hc
    rcases hc with rfl | rfl | rfl <;> rfl
mutual
theorem V.fz_clean (b : Nat) (x : Blk) : ∀ (v : V), v.clean = true → v.fz b x = v
  | .int _ _, _ | .bool _, _ | .str _, _ | .nilp, _ | .nils, _ | .nilfn, _ | .nilif, _ | .nilm, _ | .bany, _ | .rd _ _, _ | .rptr _ _, _ | .mrd _ _, _ | .junk, _ => rfl
  | .own _, h | .ptr _ _, h | .eptr _ _ _ _, h | .yld _, h | .mp _, h => by simp [V.clean] at h
  | .fn f fi cs, h => by
    simp only [V.clean, Bool.and_eq_true] at h
    simp only [V.fz, fzL_clean b x fi h.1, fzL_clean b x cs h.2]
  | .iface t v, h => by
    simp only [V.clean] at h
    simp only [V.fz, V.fz_clean b x v h]
  | .agg cs, h => by
    simp only [V.clean] at h
    simp only [V.fz, fzL_clean b x cs h]
  | .tup cs, h => by
    simp only [V.clean] at h
    simp only [V.fz, fzL_clean b x cs h]
theorem fzL_clean (b : Nat) (x : Blk) : ∀ (cs : List V), cleanL cs = true → fzL b x cs = cs
  | [], _ => rfl
  | c :: cs, h => by
    simp only [cleanL, Bool.and_eq_true] at h
    simp only [fzL, V.fz_clean b x c h.1, fzL_clean b x cs h.2]
end
theorem cleanL_all : ∀ {cs : List V}, (∀ c ∈ cs, c.tree = true) → cleanL cs = true
  | [], _ => rfl
  | c :: cs, h => by
    simp only [cleanL, Bool.and_eq_true]
    exact ⟨V.tree_clean (h c List.mem_cons_self), cleanL_all fun x hx => h x (List.mem_cons_of_mem _ hx)⟩
theorem set_fz {R : List (List V)} (hR : ∀ r ∈ R, ∀ c ∈ r, c.tree = true) {k : Nat} {r : List V} {b : Nat} {x : Blk} : (R.set k r).map (fzL b x) = R.set k (fzL b x r) := by
  rw [List.map_set]
  congr 1
  refine (List.map_congr_left fun q hq => ?_).trans (List.map_id R)
  exact fzL_clean b x q (cleanL_all (hR q hq))
theorem set_tree {R : List (List V)} (hR : ∀ r ∈ R, ∀ c ∈ r, c.tree = true) {k : Nat} {q : RS} : ∀ r ∈ R.set k q.cells, ∀ c ∈ r, c.tree = true := by
  intro r hr c hc
  rcases List.mem_or_eq_of_mem_set hr with h | rfl
  · exact hR r h c hc
  · simp only [RS.cells, List.mem_cons, List.not_mem_nil, or_false] at hc
    rcases hc with rfl | rfl | rfl <;> rfl
theorem chkT_R {l : List HD} (h : chkT l = 0) : ∀ i, i < l.length → nameS (l.getD i HD0).n = true ∧ chkR (l.getD i HD0).r = 0 := by
  have h1 := chkT_ok h
  unfold opnE at h1
  split at h1
  · exact absurd (congrArg (fun p => p.2.2) h1) (by simp)
  · split at h1
    · exact absurd (congrArg (fun p => p.2.2) h1) (by simp)
    · rename_i h2
      intro i hi
      have := lead_all l.length (okN l) i (by have := lead_le l.length (okN l); omega)
      unfold okN at this
      simp only [Bool.and_eq_true, decide_eq_true_eq] at this
      exact ⟨this.1, this.2.1⟩
theorem bothI_at {a b : List HD} {k : Nat} (hk : k < a.length) (hkb : k < b.length) (ia : inL a) (ib : inL b) (hza : chkT a = 0) (hzb : chkT b = 0) (sa : small a) (sb : small b) :
    SOInt [.agg [.rd 4 (sRows a[k].r.l4), .rd 4 (sRows a[k].r.l6), .rd 2 (aRows a[k].r.la)], .agg [.rd 4 (sRows b[k].r.l4), .rd 4 (sRows b[k].r.l6), .rd 2 (aRows b[k].r.la)]] =
      some ⟨.tup [.agg [.own 0, .own 1, .own 2], .int .i64 0], [.sl 4 101 (sRows (bothI a b k).l4), .sl 4 101 (sRows (bothI a b k).l6), .sl 2 68 (aRows (bothI a b k).la)]⟩ := by
  have ha := ia.1 _ (List.getElem_mem hk)
  have hb := ib.1 _ (List.getElem_mem hkb)
  have ca := (chkT_R hza k hk).2
  have cb := (chkT_R hzb k hkb).2
  rw [hd_get hk] at ca
  rw [hd_get hkb] at cb
  have la := sa _ (List.getElem_mem hk)
  have lb := sb _ (List.getElem_mem hkb)
  have e1 := rsOf_cells a[k].r
  have e2 := rsOf_cells b[k].r
  simp only [RS.cells] at e1 e2
  have hz : ¬ orE2 (chkR a[k].r) (chkR b[k].r) ≠ 0 := by rw [ca, cb]; simp [orE2]
  have hbg : ¬ big3 (interS a[k].r.l4 b[k].r.l4) (interS a[k].r.l6 b[k].r.l6) (interS (a[k].r.la.map wideS) (b[k].r.la.map wideS)) = true := by
    have h4 := interS_len a[k].r.l4 b[k].r.l4
    have h6 := interS_len a[k].r.l6 b[k].r.l6
    have hA := interS_len (a[k].r.la.map wideS) (b[k].r.la.map wideS)
    rw [List.length_map, List.length_map] at hA
    have := la.1; have := la.2.1; have := la.2.2; have := lb.1; have := lb.2.1; have := lb.2.2
    unfold big3
    simp only [Bool.or_eq_true, decide_eq_true_eq]
    omega
  simp only [SOInt, SEachInt, e1, e2]
  rw [if_pos ⟨ha.2.2.1, hb.2.2.1, ha.2.2.2, hb.2.2.2⟩, if_neg hz, if_neg hbg]
  unfold bothI
  rw [hd_get hk, hd_get hkb]; rfl
theorem RS.cells_len (r : RS) : r.cells.length = 3 := rfl
theorem RS.cells_take (r : RS) : r.cells.take 3 = r.cells := rfl
theorem preD_len (l : List HD) (up : Bool) : ∀ k, (preD l up k).length ≤ k * l.length
  | 0 => by simp [preD]
  | k + 1 => by
    have := preD_len l up k
    have h2 : (selD l up k l.length).length ≤ l.length := by
      unfold selD
      exact Nat.le_trans (List.length_filter_le _ _) (by simp)
    rw [preD_succ, List.length_append, Nat.succ_mul]
    omega
theorem downL_len {l : List HD} (up : Bool) (h : l.length ≤ 1000) : (downL l up).length ≤ 1000000 :=
  Nat.le_trans (preD_len l up l.length) (Nat.le_trans (Nat.mul_le_mul h h) (by decide))
theorem addS_len (st : List SO) (h : HD) (b to : RS) : (addS st h b to).length ≤ st.length + 1 := by
  unfold addS
  split <;> simp
theorem addS_fold {α : Type} (f : α → HD × RS × RS) : ∀ (L : List α) (st : List SO), (L.foldl (fun st i => addS st (f i).1 (f i).2.1 (f i).2.2) st).length ≤ st.length + L.length
  | [], st => by simp
  | x :: L, st => by
    have := addS_fold f L (addS st (f x).1 (f x).2.1 (f x).2.2)
    have h2 := addS_len st (f x).1 (f x).2.1 (f x).2.2
    simp only [List.foldl_cons, List.length_cons]
    omega
theorem foldS_len (l : List HD) (m to : Nat → RS) (L : List Nat) (st : List SO) : (L.foldl (fun st i => addS st (l.getD i HD0) (m i) (to i)) st).length ≤ st.length + L.length :=
  addS_fold (fun i => (l.getD i HD0, m i, to i)) L st
theorem fold_take {l : List HD} {m to : Nat → RS} {L : List Nat} {st : List SO} {k i : Nat} (h : L[k]? = some i) :
    (L.take (k + 1)).foldl (fun st i => addS st (l.getD i HD0) (m i) (to i)) st = addS ((L.take k).foldl (fun st i => addS st (l.getD i HD0) (m i) (to i)) st) (l.getD i HD0) (m i) (to i) := by
  rw [List.take_add_one, h]
  simp [List.foldl_append]
/-- What is kept true while the steps are gathered. -/
structure PlanI (a b : List HD) (to : Nat → RS) (l : List HD) (Fx : St → Prop) (st0 : List SO) (L : List Nat) (d y : Nat) (Lp : LoopState → Option Code → Blk) (k : Nat) (u : St) : Prop where
  out : OutS 0 ((L.take k).foldl (fun st i => addS st (l.getD i HD0) (bothI a b i) (to i)) st0) u
  q : ∀ q, u.hp 0 = some (.box 45 [.own q]) → q = 2 ∨ y < q
  fn : u.hp 1 = some (.box 105 [.fn 54 [] [.rptr [.rd 3 (rRows (bothL a b))] 0, .ptr 0 0]])
  df : u.hp d = some (.obj (.deferred (some [])))
  lp : u.hp y = some (Lp .ready none)
  nx : y < u.nx
  fx : Fx u
theorem bothI_len {a b : List HD} {i : Nat} (h : i < a.length) (hl : a.length = b.length) (sa : small a) (sb : small b) : lenRS 1000000 (bothI a b i) := by
  have hb : i < b.length := by omega
  have la := sa _ (List.getElem_mem h)
  have lb := sb _ (List.getElem_mem hb)
  have h4 := interS_len a[i].r.l4 b[i].r.l4
  have h6 := interS_len a[i].r.l6 b[i].r.l6
  have hA := interS_len (a[i].r.la.map wideS) (b[i].r.la.map wideS)
  rw [List.length_map, List.length_map] at hA
  have := la.1; have := la.2.1; have := la.2.2; have := lb.1; have := lb.2.1; have := lb.2.2
  unfold bothI
  rw [hd_get h, hd_get hb]
  refine ⟨?_, ?_, ?_⟩
  · show (interS _ _).length ≤ _
    omega
  · show (interS _ _).length ≤ _
    omega
  · show (List.map narS (interS _ _)).length ≤ _
    rw [List.length_map]
    omega
def M_f22 : Md := fun i => if i = 15 then some #[0, 0, 0, 0, 12, 28, 60, 0, 0, 384, 896, 1920, 4092, 8188, 16380, 16380, 32767, 98303, 262143] else if i = 23 then some #[0, 0, 0, 0, 0, 24, 56, 127, 128] else if i = 26 then some #[0, 0, 0, 0, 0, 24, 56, 120, 255, 256] else some #[]
@[simp] theorem M_f22_eq {i : Nat} : M_f22 i = (if i = 15 then some #[0, 0, 0, 0, 12, 28, 60, 0, 0, 384, 896, 1920, 4092, 8188, 16380, 16380, 32767, 98303, 262143] else if i = 23 then some #[0, 0, 0, 0, 0, 24, 56, 127, 128] else if i = 26 then some #[0, 0, 0, 0, 0, 24, 56, 120, 255, 256] else some #[]) := rfl
theorem runs_shrink_Plan : ∀ args r, SPlan args = some r → Runs Try.prog 22 args r := by
  intro args r hh
  unfold SPlan at hh
  split at hh
  · rename_i ra rb
    split at hh
    · rename_i a b ha hb
      split at hh
      · rename_i hin
        obtain ⟨ia, ib, sa, sb⟩ := hin
        have h1 := parse_eq hdOf_eq ha
        have h2 := parse_eq hdOf_eq hb
        subst h1 h2
        change Runs _ _ [.rd 5 (hRows a), .rd 5 (hRows b)] _
        have la := ia.2
        have lb := ib.2
        refine Runs.of_body Try.func22 (by decide) rfl (by simp [Try.f22]) ?_
        have hT : (T0.add 39 SOpen).ok Try.prog := Tab.add_ok (T0_ok _) runs_shrink_open
        refine W.seqE hT mixed M_f22 (by kernel_rfl) ?_
        simp [Try.f22]
        refine W.wk (Wk.freeze 0 (.box 22 [.rd 5 (hRows a)]) (by simp) (by simp)) ?_
        refine W.wk (Wk.freeze 8 (.box 22 [.rd 5 (hRows b)]) (by simp) (by simp)) ?_
        by_cases hza : chkT a = 0
        · have hoa := open_ok ia hza
          simp only [TR.cells, trL, nms_len] at hoa
          refine W.cutw True [(2, .rptr [.rd 5 (hRows a)] 0), (3, .rptr [.rd 5 (hRows b)] 0), (6, .rptr (trL a).cells 0), (7, .int .i64 0)] [] 99 ?_ ?_
          · refine W.of_WE hT mixed M_f22 _ (by kernel_rfl) ?_
            simp [hoa]
            refine Wk.trans (Wk.freeze 72 (.box 80 (trL a).cells) (by simp [TR.cells, trL]) (by simp [TR.cells])) ?_
            exact norm_wk [] (by simp [wkOkx, tmOk, dfOk, hpOk, TR.cells, trL])
          intro _
          refine W.seqE hT mixed M_f22 (by kernel_rfl) ?_
          simp
          by_cases hzb : chkT b = 0
          · have hob := open_ok ib hzb
            simp only [TR.cells, trL, nms_len] at hob
            have hT2 : (T0.add 52 SEqf).ok Try.prog := Tab.add_ok (T0_ok _) runs_EqualFunc_hd
            have heq : SEqf [.rd 5 (hRows a), .rd 5 (hRows b), .fn 53 [] []] = some ⟨.bool (shpB a b), []⟩ := by
              simp only [SEqf, hRows_parse]; rw [if_pos ⟨la, lb⟩]
            refine W.cutw True [(2, .rptr [.rd 5 (hRows a)] 0), (3, .rptr [.rd 5 (hRows b)] 0), (6, .rptr (trL a).cells 0), (8, .rptr (trL b).cells 0), (7, .int .i64 0)] [] 99 ?_ ?_
            · refine W.of_WE hT mixed M_f22 _ (by kernel_rfl) ?_
              simp [hob]
              refine Wk.trans (Wk.freeze 56 (.box 80 (trL b).cells) (by simp [TR.cells, trL]) (by simp [TR.cells])) ?_
              exact norm_wk [] (by simp [wkOkx, tmOk, dfOk, hpOk, TR.cells, trL])
            intro _
            refine W.seqE hT mixed M_f22 (by kernel_rfl) ?_
            simp
            cases hsh : shpB a b
            · have he : planE a b = 2 := by unfold planE; simp [hza, hzb, hsh]
              rw [he] at hh
              simp at hh
              subst hh
              rw [hsh] at heq
              refine W.of_WE hT2 mixed M_f22 _ (by kernel_rfl) ?_
              simp [heq]
            rw [hsh] at heq
            refine W.seqE hT2 mixed M_f22 (by kernel_rfl) ?_
            simp [heq]
            have hca := conE_at (inT_L ia) ia
            have hcb := conE_at (inT_L ib) ib
            simp only [TR.cells] at hca hcb
            have hT3 : (T0.add 44 SConE).ok Try.prog := Tab.add_ok (T0_ok _) runs_ConE
            cases hxa : a.any (excT (trL a))
            case true =>
              have he : planE a b = 26 := by unfold planE; simp [-List.any_eq_true, -List.any_eq_false, hza, hzb, hsh, hxa]
              rw [hxa] at hca
              rw [he] at hh
              simp at hh
              subst hh
              refine W.of_WE hT3 mixed M_f22 _ (by kernel_rfl) ?_
              simp [TR.cells, hca]
            case false =>
            rw [hxa] at hca
            cases hxb : b.any (excT (trL b))
            case true =>
              have he : planE a b = 26 := by unfold planE; simp [-List.any_eq_true, -List.any_eq_false, hza, hzb, hsh, hxa, hxb]
              rw [hxb] at hcb
              rw [he] at hh
              simp at hh
              subst hh
              refine W.of_WE hT3 mixed M_f22 _ (by kernel_rfl) ?_
              simp [TR.cells, hca, hcb]
            case false =>
            rw [hxb] at hcb
            have he : planE a b = 0 := by unfold planE; simp [-List.any_eq_true, -List.any_eq_false, hza, hzb, hsh, hxa, hxb]
            rw [he] at hh
            simp at hh
            subst hh
            refine W.seqE hT3 mixed M_f22 (by kernel_rfl) ?_
            simp [TR.cells, hca, hcb]
            refine W.cut True [(2, .rptr [.rd 5 (hRows a)] 0), (3, .rptr [.rd 5 (hRows b)] 0), (6, .rptr (trL a).cells 0), (9, .ptr 0 0)] [.box 104 [.own 1], .sl 3 26 (List.replicate a.length [.nils, .nils, .nils])] 99 ?_ ?_
            · refine W.of_WE hT3 mixed M_f22 _ (by kernel_rfl) ?_
              simp [TR.cells]
              exact ⟨by omega, by omega⟩
            intro _
            have hsa : small a := sa hza
            have hsb : small b := sb hzb
            have hleq : a.length = b.length := by
              have := hsh; unfold shpB at this; rw [Bool.and_eq_true, decide_eq_true_eq] at this; exact this.1
            have hT4 : (T0.add 24 SOInt).ok Try.prog := Tab.add_ok (T0_ok _) runs_resource_Int
            refine W.cutw True [(2, .rptr [.rd 5 (hRows a)] 0), (3, .rptr [.rd 5 (hRows b)] 0), (6, .rptr (trL a).cells 0), (9, .rptr [.rd 3 (rRows (bothL a b))] 0)] [] 99 ?_ ?_
            · refine W.seqE hT4 mixed M_f22 (by kernel_rfl) ?_
              simp
              refine W.block (W.for (fun _ => True) (fun k => [(2, .rptr [.rd 5 (hRows a)] 0), (3, .rptr [.rd 5 (hRows b)] 0), (6, .rptr (trL a).cells 0), (9, .ptr 0 0), (49, .int .i64 a.length), (50, .int .i64 k)]) (fun k => [.box 104 [.own 1], .sl 3 26 (bRows a b k)]) 99 a.length trivial ?_ ?_)
              · simp [TR.cells, bRows_zero]
              · intro k hk _
                by_cases hlt : k < a.length
                · have hw1 : IntKind.i64.wrap ((k : Int) + 1) = k + 1 := wr_i64 (by omega) (by omega)
                  have hkb : k < b.length := by omega
                  refine W.seqE hT4 mixed M_f22 (by kernel_rfl) ?_
                  simp [TR.cells]
                  refine W.seqE hT4 mixed M_f22 (by kernel_rfl) ?_
                  simp [hlt]
                  refine W.cut True [(2, .rptr [.rd 5 (hRows a)] 0), (3, .rptr [.rd 5 (hRows b)] 0), (6, .rptr (trL a).cells 0), (9, .ptr 0 0), (49, .int .i64 a.length), (50, .int .i64 k)] [.box 104 [.own 1], .sl 3 26 (bRows a b (k + 1))] 99 ?_ ?_
                  · refine W.block ?_
                    refine W.cut True [(2, .rptr [.rd 5 (hRows a)] 0), (3, .rptr [.rd 5 (hRows b)] 0), (6, .rptr (trL a).cells 0), (9, .ptr 0 0), (49, .int .i64 a.length), (50, .int .i64 k), (10, .int .i64 k)] [.box 104 [.own 1], .sl 3 26 (bRows a b k)] 99 ?_ ?_
                    · refine W.of_WE hT4 mixed M_f22 _ (by kernel_rfl) ?_
                      simp [TR.cells]
                    intro _
                    refine W.cutw True [(2, .rptr [.rd 5 (hRows a)] 0), (3, .rptr [.rd 5 (hRows b)] 0), (6, .rptr (trL a).cells 0), (9, .ptr 0 0), (49, .int .i64 a.length), (50, .int .i64 k), (7, .int .i64 0)] [.box 104 [.own 1], .sl 3 26 (bRows a b (k + 1))] 99 ?_ ?_
                    · refine W.of_WE hT4 mixed M_f22 _ (by kernel_rfl) ?_
                      have hI := bothI_at hlt hkb ia ib hza hzb hsa hsb
                      have hset := bRows_set (b := b) hlt
                      have hbl : (bRows a b k).length = a.length := bRows_len a b k
                      have hRc := bRows_tree a b k
                      have hRk : ∀ h : k < (bRows a b k).length, (bRows a b k)[k]'h = [.nils, .nils, .nils] := fun h => by simp [bRows]
                      generalize bRows a b k = R at *
                      simp [hlt, hkb, HD.row, hI, hbl, hRk]
                      refine Wk.trans (Wk.freeze 98 (.sl 4 101 (sRows (bothI a b k).l4)) (by simp) (by simp)) ?_
                      refine Wk.trans (Wk.freeze 99 (.sl 4 101 (sRows (bothI a b k).l6)) (by simp) (by simp)) ?_
                      refine Wk.trans (Wk.freeze 100 (.sl 2 68 (aRows (bothI a b k).la)) (by simp) (by simp)) ?_
                      refine Wk.trans (Wk.toSl 1 (sz := 3) (ty := 26) (rows := R.set k (bothI a b k).cells) (by simp [set_fz hRc, RS.cells]) (set_tree hRc)) ?_
                      rw [hset]
                      exact norm_wk [0, 1] (by simp [wkOkx, tmOk, dfOk, hpOk, TR.cells])
                    intro _
                    refine W.of_WE hT4 mixed M_f22 _ (by kernel_rfl) ?_
                    simp [TR.cells]
                  intro _
                  refine W.of_WE hT4 mixed M_f22 _ (by kernel_rfl) ?_
                  simp [TR.cells, hw1]
                · have : k = a.length := by omega
                  subst this
                  refine W.of_WE hT4 mixed M_f22 _ (by kernel_rfl) ?_
                  simp [TR.cells]
                  rw [bRows_full]
                  refine Wk.trans (Wk.freeze 1 (.sl 3 26 (rRows (bothL a b))) (by simp) (by simp)) ?_
                  refine Wk.trans (Wk.freeze 0 (.box 104 [.rd 3 (rRows (bothL a b))]) (by simp) (by simp)) ?_
                  exact norm_wk [] (by simp [wkOkx, tmOk, dfOk, hpOk, TR.cells])
            intro _
            have hT5 : ((T0.add 48 SDown).addC 54 StepC).ok Try.prog := Tab.addC_ok (Tab.add_ok (T0_ok _) runs_shrink_down) (fun _ _ _ _ h => step_ok h)
            refine W.cutw True [(2, .rptr [.rd 5 (hRows a)] 0), (3, .rptr [.rd 5 (hRows b)] 0), (6, .rptr (trL a).cells 0), (9, .rptr [.rd 3 (rRows (bothL a b))] 0), (11, .ptr 0 0)] [.box 45 [.own 1], .sl 4 28 []] 99 ?_ ?_
            · refine W.of_WE hT5 mixed M_f22 _ (by kernel_rfl) ?_
              simp
              refine Wk.trans (Wk.adoptB 0 0 4 28 (bt := 45) (cells := [.nils]) (by omega) (by simp) rfl) ?_
              exact norm_wk [0, 8] (by simp [wkOkx, tmOk, dfOk, hpOk, TR.cells])
            intro _
            refine W.cut True [(2, .rptr [.rd 5 (hRows a)] 0), (3, .rptr [.rd 5 (hRows b)] 0), (6, .rptr (trL a).cells 0), (9, .rptr [.rd 3 (rRows (bothL a b))] 0), (11, .ptr 0 0), (12, .ptr 1 0)] [.box 45 [.own 2], .box 105 [.fn 54 [] [.rptr [.rd 3 (rRows (bothL a b))] 0, .ptr 0 0]], .sl 4 28 []] 99 ?_ ?_
            · refine W.of_WE hT5 mixed M_f22 _ (by kernel_rfl) ?_
              simp [TR.cells]
            intro _
            refine W.seq (W.cut True [(2, .rptr [.rd 5 (hRows a)] 0), (3, .rptr [.rd 5 (hRows b)] 0), (6, .rptr (trL a).cells 0), (9, .rptr [.rd 3 (rRows (bothL a b))] 0), (11, .ptr 0 0), (12, .ptr 1 0), (76, .fn 75 [] [.rptr (trL a).cells 0, .rptr [.bool true] 0])] [.box 45 [.own 2], .box 105 [.fn 54 [] [.rptr [.rd 3 (rRows (bothL a b))] 0, .ptr 0 0]], .sl 4 28 []] 99 ?_ ?_)
            · refine W.of_WE hT5 mixed M_f22 _ (by kernel_rfl) ?_
              have hdn : SDown [.agg (trL a).cells, .bool true] = some ⟨.fn 75 [] [.rptr (trL a).cells 0, .rptr [.bool true] 0], []⟩ := by simp only [SDown, trOf_cells]
              simp only [TR.cells] at hdn
              simp [TR.cells, hdn]
            intro _
            refine W.block (W.rangeFunc' (n := 3) (by simp) (gf := 75) (fi := []) (caps := [.rptr (trL a).cells 0, .rptr [.bool true] 0]) (by simp) (by simp) Try.func75 (by decide) rfl ?_)
            intro fn Lp hLp
            refine down1_ok ⟨4, trL a, a, true, rfl, rfl, rfl, la, fun k u => PlanI a b (fun i => bothI a b i) a (fun _ => True) [] (downL a true) 3 4 Lp k u, ?_, ?_, ?_⟩
            · refine ⟨⟨2, ?_, ?_, by omega, ?_⟩, fun q hq => ?_, ?_, ?_, ?_, ?_, trivial⟩
              · simp
              · simp [oRowsS]
              · simp
              · simp at hq; exact .inl hq.symm
              · simp
              · simp
              · simp
              · simp
            · intro k i s0 s' hL hil hI hsame
              obtain ⟨⟨q, hq1, hq2, hq3, hq4⟩, hqn, hfn, hdf, hlp, hnx, hfx⟩ := hI
              obtain ⟨hs1, hs2⟩ := hsame
              rw [← hs1] at hq1 hq2 hfn hdf hlp
              have hqn' := hqn q (by rw [← hs1]; exact hq1)
              have hq0 : q ≠ 0 := hq3.symm
              have hq1' : q ≠ 1 := by omega
              have hq3' : q ≠ 3 := by omega
              have hq4' : q ≠ 4 := by omega
              have hqlt : q < s'.nx := by omega
              have zq := fresh2 hqlt
              have z0 := fresh2 (show 0 < s'.nx by omega)
              have z1 := fresh2 (show 1 < s'.nx by omega)
              have z3 := fresh2 (show 3 < s'.nx by omega)
              have z4 := fresh2 (show 4 < s'.nx by omega)
              have hbi := bothL_get (b := b) hil
              refine CallY.of_loop' hLp hlp rfl (by simp) ?_
              refine W.of_WE hT5 mixed M_f22 _ (by kernel_rfl) ?_
              simp [hlp, z4]
              refine W.of_WE hT5 mixed M_f22 _ (by kernel_rfl) ?_
              simp [hlp, hfn, z0, z1, z3, z4, hil, hbi, RS.cells_len, RS.cells_take]
              have hbe : (bothL a b)[i]'(by simp; exact hil) = bothI a b i := Option.some.inj ((List.getElem?_eq_getElem _).symm.trans hbi)
              have hai := ia.1 _ (List.getElem_mem hil)
              have hlb : lenRS 1000000 (bothI a b i) := bothI_len hil hleq hsa hsb
              have hft := fold_take (l := a) (m := bothI a b) (to := bothI a b) (st := []) hL
              have hfl := foldS_len a (bothI a b) (bothI a b) ((downL a true).take k) []
              have hdl := downL_len true la
              have hkl : k < (downL a true).length := (List.getElem?_eq_some_iff.1 hL).1
              rw [List.length_take] at hfl
              rw [hbe]
              refine ⟨a, i, bothL a b, bothI a b i, 0, ((downL a true).take k).foldl (fun st i => addS st (a.getD i HD0) (bothI a b i) (bothI a b i)) [], a[i], bothI a b i, rfl, List.getElem?_eq_getElem hil, hbi, hlb, hai.2.2.2, hlb, ?_, ?_, ⟨q, ?_, ?_, hq3, ?_⟩, ?_⟩
              · simp
              · exact Nat.le_trans hfl (by simp only [List.length_nil]; omega)
              · simpa using hq1
              · simp [hq4']; exact hq2
              · simp; omega
              · rintro s2 ⟨hk1, hk2⟩ hout2 hnew
                simp at hk1 hnew
                have key : ∀ x, x < s'.nx → x ≠ 0 → x ≠ q → x ≠ 4 → s2.hp x = s'.hp x := fun x hx h0 hxq h4 => by
                  have := hk2 x (by simp <;> omega) h0 (fun z hz => by simp [hq1] at hz; omega)
                  simpa [h4] using this
                have k4 : s2.hp 4 = some (Lp .busy none) := by
                  have := hk2 4 (by simp <;> omega) (by decide) (fun z hz => by simp [hq1] at hz; omega)
                  simpa using this
                refine ⟨k4, ⟨?_, ?_, ?_, ?_, ?_, ?_, trivial⟩⟩
                · rw [hft, hd_get hil]
                  obtain ⟨z, w1, w2, w3, w4⟩ := hout2
                  have hz4 : z ≠ 4 := by
                    rcases hnew z w1 with g | g
                    · rw [hq1] at g; simp at g; omega
                    · omega
                  exact ⟨z, by simpa using w1, by simpa [hz4] using w2, w3, by simp <;> omega⟩
                · intro z hz
                  simp at hz
                  rcases hnew z hz with g | g
                  · rw [hq1] at g; simp at g; omega
                  · omega
                · simp; rw [key 1 (by omega) (by decide) (by omega) (by decide)]; exact hfn
                · simp; rw [key 3 (by omega) (by decide) (by omega) (by decide)]; exact hdf
                · simp
                · simp <;> omega
            · intro s0 s' hI hsame
              obtain ⟨⟨q, hq1, hq2, hq3, hq4⟩, hqn, hfn, hdf, hlp, hnx, hfx⟩ := hI
              obtain ⟨hs1, hs2⟩ := hsame
              rw [← hs1] at hq1 hq2 hfn hdf hlp
              have hqn' := hqn q (by rw [← hs1]; exact hq1)
              have hq0 : q ≠ 0 := hq3.symm
              have hq1' : q ≠ 1 := by omega
              have hq3' : q ≠ 3 := by omega
              have hq4' : q ≠ 4 := by omega
              rw [List.take_length] at hq2
              obtain ⟨ST1, hST1⟩ : ∃ ST1, ST1 = (downL a true).foldl (fun st i => addS st (a.getD i HD0) (bothI a b i) (bothI a b i)) [] := ⟨_, rfl⟩
              rw [← hST1] at hq2
              have hST1l : ST1.length ≤ 1000000 := by
                have := foldS_len a (bothI a b) (bothI a b) (downL a true) []
                have hdl := downL_len true la
                rw [← hST1] at this
                simp only [List.length_nil] at this
                omega
              refine ⟨.ready, none, hlp, by simp, ?_⟩
              refine W.wk (Wk.mk (ns := [0, 1, q, 3]) (l := [(2, .rptr [.rd 5 (hRows a)] 0), (3, .rptr [.rd 5 (hRows b)] 0), (6, .rptr (trL a).cells 0), (9, .rptr [.rd 3 (rRows (bothL a b))] 0), (11, .ptr 0 0), (12, .ptr 1 0)]) (h := [.box 45 [.own 2], .box 105 [.fn 54 [] [.rptr [.rd 3 (rRows (bothL a b))] 0, .ptr 0 0]], .sl 4 28 (oRowsS ST1), .obj (.deferred (some []))]) (cx := { nt := 99, df := [3] }) ?_) ?_
              · simp [wkOkx, tmOk, dfOk, hpOk, TR.cells, hq1, hq2, hfn, hdf, hq0, hq0.symm, hq1', hq1'.symm, hq3', hq3'.symm, hq4', hq4'.symm]
              refine W.seq (W.cutx True [(2, .rptr [.rd 5 (hRows a)] 0), (3, .rptr [.rd 5 (hRows b)] 0), (6, .rptr (trL a).cells 0), (9, .rptr [.rd 3 (rRows (bothL a b))] 0), (11, .ptr 0 0), (12, .ptr 1 0), (87, .fn 75 [] [.rptr (trL a).cells 0, .rptr [.bool false] 0])] [.box 45 [.own 2], .box 105 [.fn 54 [] [.rptr [.rd 3 (rRows (bothL a b))] 0, .ptr 0 0]], .sl 4 28 (oRowsS ST1), .obj (.deferred (some []))] { nt := 99, df := [3] } ?_ ?_)
              · refine W.of_WE hT5 mixed M_f22 _ (by kernel_rfl) ?_
                have hdn : SDown [.agg (trL a).cells, .bool false] = some ⟨.fn 75 [] [.rptr (trL a).cells 0, .rptr [.bool false] 0], []⟩ := by simp only [SDown, trOf_cells]
                simp only [TR.cells] at hdn
                simp [TR.cells, hdn]
              intro _
              clear hq1 hq2 hq3 hq4 hqn hfn hdf hlp hnx hfx hs1 hs2 hqn' hq0 hq1' hq3' hq4' hLp
              refine W.block (W.rangeFunc' (n := 4) (by simp) (gf := 75) (fi := []) (caps := [.rptr (trL a).cells 0, .rptr [.bool false] 0]) (by simp) (by simp) Try.func75 (by decide) rfl ?_)
              intro fn Lp hLp
              refine down1_ok ⟨5, trL a, a, false, rfl, rfl, rfl, la, fun k u => PlanI a b (resI b) b (fun u => u.hp 3 = some (.obj (.deferred (some [])))) ST1 (downL a false) 4 5 Lp k u, ?_, ?_, ?_⟩
              · refine ⟨⟨2, ?_, ?_, by omega, ?_⟩, fun q hq => ?_, ?_, ?_, ?_, ?_, ?_⟩
                · simp
                · simp
                · simp
                · simp at hq; exact .inl hq.symm
                · simp
                · simp
                · simp
                · simp
                · simp
              · intro k i s0 s' hL hil hI hsame
                obtain ⟨⟨q, hq1, hq2, hq3, hq4⟩, hqn, hfn, hdf, hlp, hnx, hfx⟩ := hI
                obtain ⟨hs1, hs2⟩ := hsame
                rw [← hs1] at hq1 hq2 hfn hdf hlp hfx
                have hqn' := hqn q (by rw [← hs1]; exact hq1)
                have hq0 : q ≠ 0 := hq3.symm
                have hq1' : q ≠ 1 := by omega
                have hq3' : q ≠ 3 := by omega
                have hq4' : q ≠ 4 := by omega
                have hq5' : q ≠ 5 := by omega
                have hqlt : q < s'.nx := by omega
                have zq := fresh2 hqlt
                have z0 := fresh2 (show 0 < s'.nx by omega)
                have z1 := fresh2 (show 1 < s'.nx by omega)
                have z3 := fresh2 (show 3 < s'.nx by omega)
                have z4 := fresh2 (show 4 < s'.nx by omega)
                have z5 := fresh2 (show 5 < s'.nx by omega)
                have hbi := bothL_get (b := b) hil
                have hib : i < b.length := by omega
                refine CallY.of_loop' hLp hlp rfl (by simp) ?_
                refine W.of_WE hT5 mixed M_f22 _ (by kernel_rfl) ?_
                simp [hlp, z5]
                refine W.of_WE hT5 mixed M_f22 _ (by kernel_rfl) ?_
                simp [hlp, hfn, z0, z1, z3, z4, z5, hib, HD.row]
                have hai := ib.1 _ (List.getElem_mem hib)
                have hlb : lenRS 1000000 (bothI a b i) := bothI_len hil hleq hsa hsb
                have hft := fold_take (l := b) (m := bothI a b) (to := resI b) (st := ST1) hL
                have hfl := foldS_len b (bothI a b) (resI b) ((downL a false).take k) ST1
                have hdl := downL_len false la
                have hkl : k < (downL a false).length := (List.getElem?_eq_some_iff.1 hL).1
                rw [List.length_take] at hfl
                have hri : resI b i = b[i].r := by unfold resI; rw [hd_get hib]
                rw [hri] at hft
                refine ⟨b, i, bothL a b, b[i].r, 0, ((downL a false).take k).foldl (fun st i => addS st (b.getD i HD0) (bothI a b i) (resI b i)) ST1, b[i], bothI a b i, rfl, List.getElem?_eq_getElem hib, hbi, hai.2.2.2, hai.2.2.2, hlb, ?_, ?_, ⟨q, ?_, ?_, hq3, ?_⟩, ?_⟩
                · simp
                · exact Nat.le_trans hfl (by omega)
                · simpa using hq1
                · simp [hq5']; exact hq2
                · simp; omega
                · rintro s2 ⟨hk1, hk2⟩ hout2 hnew
                  simp at hk1 hnew
                  have key : ∀ x, x < s'.nx → x ≠ 0 → x ≠ q → x ≠ 5 → s2.hp x = s'.hp x := fun x hx h0 hxq h4 => by
                    have := hk2 x (by simp <;> omega) h0 (fun z hz => by simp [hq1] at hz; omega)
                    simpa [h4] using this
                  have k4 : s2.hp 5 = some (Lp .busy none) := by
                    have := hk2 5 (by simp <;> omega) (by decide) (fun z hz => by simp [hq1] at hz; omega)
                    simpa using this
                  refine ⟨k4, ⟨?_, ?_, ?_, ?_, ?_, ?_, ?_⟩⟩
                  · rw [hft, hd_get hib]
                    obtain ⟨z, w1, w2, w3, w4⟩ := hout2
                    have hz4 : z ≠ 5 := by
                      rcases hnew z w1 with g | g
                      · rw [hq1] at g; simp at g; omega
                      · omega
                    exact ⟨z, by simpa using w1, by simpa [hz4] using w2, w3, by simp <;> omega⟩
                  · intro z hz
                    simp at hz
                    rcases hnew z hz with g | g
                    · rw [hq1] at g; simp at g; omega
                    · omega
                  · simp; rw [key 1 (by omega) (by decide) (by omega) (by decide)]; exact hfn
                  · simp; rw [key 4 (by omega) (by decide) (by omega) (by decide)]; exact hdf
                  · simp
                  · simp <;> omega
                  · simp; rw [key 3 (by omega) (by decide) (by omega) (by decide)]; exact hfx
              · intro s0 s' hI hsame
                obtain ⟨⟨q, hq1, hq2, hq3, hq4⟩, hqn, hfn, hdf, hlp, hnx, hfx⟩ := hI
                obtain ⟨hs1, hs2⟩ := hsame
                rw [← hs1] at hq1 hq2 hfn hdf hlp hfx
                have hqn' := hqn q (by rw [← hs1]; exact hq1)
                have hq0 : q ≠ 0 := hq3.symm
                have hq3' : q ≠ 3 := by omega
                have hq4' : q ≠ 4 := by omega
                have hq5' : q ≠ 5 := by omega
                rw [List.take_length] at hq2
                have hpl : planS a b = (downL a false).foldl (fun st i => addS st (b.getD i HD0) (bothI a b i) (resI b i)) ST1 := by rw [hST1]; rfl
                rw [← hpl] at hq2
                refine ⟨.ready, none, hlp, by simp, ?_⟩
                refine W.wk (Wk.mk (ns := [0, q, 4, 3]) (l := [(11, .ptr 0 0)]) (h := [.box 45 [.own 1], .sl 4 28 (oRowsS (planS a b)), .obj (.deferred (some [])), .obj (.deferred (some []))]) (cx := { nt := 99, df := [2, 3] }) ?_) ?_
                · simp [wkOkx, tmOk, dfOk, hpOk, hq1, hq2, hdf, hfx, hq0, hq0.symm, hq3', hq3'.symm, hq4', hq4'.symm, hq5', hq5'.symm]
                refine W.wk (Wk.freeze 1 (.sl 4 28 (oRowsS (planS a b))) (by simp) (by simp)) ?_
                refine W.of_WE hT5 mixed M_f22 _ (by kernel_rfl) ?_
                simp
          · have he : planE a b = chkT b := by unfold planE; rw [if_neg (by omega), if_pos hzb]
            rw [he, if_pos hzb] at hh
            cases hh
            have hob := open_at ib
            have hz' : ¬ (opnE b).2.2 = 0 := hzb
            refine W.cut True [(7, .int .i64 (opnE b).2.2)] [] 99 ?_ ?_
            · refine W.of_WE hT mixed M_f22 _ (by kernel_rfl) ?_
              simp [hob, opnR]
            intro _
            refine W.of_WE hT mixed M_f22 _ (by kernel_rfl) ?_
            simp [hz', chkT]
        · have he : planE a b = chkT a := by unfold planE; rw [if_pos hza]
          rw [he, if_pos hza] at hh
          cases hh
          have hoa := open_at ia
          have hz' : ¬ (opnE a).2.2 = 0 := hza
          refine W.cut True [(7, .int .i64 (opnE a).2.2)] [] 99 ?_ ?_
          · refine W.of_WE hT mixed M_f22 _ (by kernel_rfl) ?_
            simp [hoa, opnR]
          intro _
          refine W.of_WE hT mixed M_f22 _ (by kernel_rfl) ?_
          simp [hz', chkT]
      · cases hh
    · cases hh
  · cases hh

end Go.Proofs.Ytkcmgjagjbiinaa.AL
