import Derived.Test.YthfbddnpakhjiaaC14cW4
import Derived.Test.YthfbddnpakhjiaaC14cW1
/- What single functions compute: a part of the proof; no conditions. -/
set_option linter.unusedVariables false
set_option linter.unusedSimpArgs false
set_option maxRecDepth 100000
namespace Go.Proofs.Ythfbddnpakhjiaa.AL
open Go
attribute [local simp] qf cv qbin ibin sbin qun retPost rvOk ctV ctPost marksOk retV resAll resOf V.lt ltL V.ren renL V.exp V.exp1 cleanL V.clean closedL V.closed V.cells V.one V.tree
  loadV cellsAt isNC nilQ isSlD isIfD slNew ownRows ownCells V.isOwn slStore srcO qlook mlook mget mstr zval qnone qmake mput lmap isAggD placesOf fillV putCells lstore bound seqParts V.sh shL Blk.sh newV V.ok peqs peq srcRows appOk mmV mmR hidE V.fz fzL Blk.fz fzOk and_assoc
attribute [-simp] Int.not_le Int.not_lt Nat.not_le Nat.not_lt
def chkdR (r : RS) : Int := if 200 < r.l4.length ∨ 200 < r.l6.length ∨ 200 < r.la.length then 4 else if goodL 4 r.l4 = true ∧ goodL 6 r.l6 = true ∧ goodL 4 (r.la.map wideS) = true then 0 else 8
def SChkd : List V → Option Res
  | [.agg cs] => match rsOf cs with
    | some r => if inRS r ∧ lenRS 1000000 r then some ⟨.int .i64 (chkdR r), []⟩ else none
    | none => none
  | _ => none
theorem sets_at {r : RS} (hin : inRS r) (hlen : lenRS 1000000 r) : SSets [.agg r.cells] = some ⟨.agg [.rd 4 (sRows r.l4), .rd 4 (sRows r.l6), .rd 4 (sRows (r.la.map wideS))], []⟩ := by
  simp only [SSets, RS.cells, aRows_parse]
  rw [if_pos ⟨hin.2.2, hlen.2.2⟩]
theorem good_at {k : Nat} {l : List SP} (hk : k = 0 ∨ k = 1 ∨ k = 2) (hlen : l.length ≤ 1000000) : SGoodK [.int .i64 k, .rd 4 (sRows l)] = some ⟨.bool (goodL (famK k) l), []⟩ := by
  simp only [SGoodK, sRows_parse]
  rw [if_pos ⟨by omega, hlen⟩, Int.toNat_natCast]
theorem runs_checked : ∀ args r, SChkd args = some r → Runs Try.prog 90 args r := by
  intro args r hh
  unfold SChkd at hh
  split at hh
  · rename_i cs
    split at hh
    · rename_i r hr
      split at hh
      · rename_i hin
        obtain ⟨hin, hlen⟩ := hin
        cases hh
        have h1 := rsOf_eq hr
        subst h1
        have hs := sets_at hin hlen
        have hT : ((T0.add 91 SSets).add 116 SGoodK).ok Try.prog := Tab.add_ok (Tab.add_ok (T0_ok _) runs_resource_sets) runs_good
        refine Runs.of_body Try.func90 (by decide) rfl (by simp [Try.f90]) ?_
        refine W.seqE hT mixed M0 (by kernel_rfl) ?_
        simp [Try.f90, RS.cells]
        refine W.cut (¬ (200 < r.l4.length ∨ 200 < r.l6.length ∨ 200 < r.la.length)) [(1, .ptr 0 0)] [.box 64 r.cells] 27 ?_ ?_
        · refine W.of_WE hT mixed M0 _ (by kernel_rfl) ?_
          simp [Try.f90, RS.cells]
          have key : ∀ a b c : Nat, ((200 : Int) < if (if a < b then (b : Int) else (a : Int)) < (c : Int) then (c : Int) else if a < b then (b : Int) else (a : Int)) ↔ (200 < a ∨ 200 < b ∨ 200 < c) := by
            intro a b c
            by_cases c1 : a < b
            · simp only [c1, if_true]
              by_cases c2 : (b : Int) < c
              · simp only [c2, if_true]; omega
              · simp only [c2, if_false]; omega
            · simp only [c1, if_false]
              by_cases c2 : (a : Int) < c
              · simp only [c2, if_true]; omega
              · simp only [c2, if_false]; omega
          rw [key]
          refine ⟨fun h => by unfold chkdR; rw [if_pos h], fun h => by omega⟩
        · intro hm
          refine W.cut (goodL 4 r.l4 = true ∧ goodL 6 r.l6 = true ∧ goodL 4 (r.la.map wideS) = true) [] [] 27 ?_ ?_
          · refine W.seqE hT mixed M0 (by kernel_rfl) ?_
            simp only [RS.cells] at hs ⊢
            simp [Try.f90, hs]
            have g0 : SGoodK [.int .i64 0, .rd 4 (sRows r.l4)] = some ⟨.bool (goodL 4 r.l4), []⟩ := good_at (k := 0) (.inl rfl) hlen.1
            have g1 : SGoodK [.int .i64 1, .rd 4 (sRows r.l6)] = some ⟨.bool (goodL 6 r.l6), []⟩ := good_at (k := 1) (.inr (.inl rfl)) hlen.2.1
            have g2 : SGoodK [.int .i64 2, .rd 4 (sRows (r.la.map wideS))] = some ⟨.bool (goodL 4 (r.la.map wideS)), []⟩ := good_at (k := 2) (.inr (.inr rfl)) (by simpa using hlen.2.2)
            refine W.block (W.for (fun k => (0 < k → goodL 4 r.l4 = true) ∧ (1 < k → goodL 6 r.l6 = true) ∧ (2 < k → goodL 4 (r.la.map wideS) = true))
              (fun k => [(17, .agg [.rd 4 (sRows r.l4), .rd 4 (sRows r.l6), .rd 4 (sRows (r.la.map wideS))]), (18, .int .i64 k)]) (fun k => []) 27 3 (by simp) ?_ ?_)
            · simp
            · intro k hk hJ
              refine W.of_WE hT mixed M0 _ (by kernel_rfl) ?_
              match k, hk, hJ with
              | 0, _, hJ =>
                cases e : goodL 4 r.l4
                · rw [e] at g0
                  simp [g0, e, chkdR, hm]
                · rw [e] at g0
                  simp [g0, e]; rfl
              | 1, _, hJ =>
                have j0 := hJ.1 (by omega)
                cases e : goodL 6 r.l6
                · rw [e] at g1
                  simp [g1, e, chkdR, hm]
                · rw [e] at g1
                  simp [g1, e, j0]; rfl
              | 2, _, hJ =>
                have j0 := hJ.1 (by omega)
                have j1 := hJ.2.1 (by omega)
                cases e : goodL 4 (r.la.map wideS)
                · rw [e] at g2
                  simp [g2, e, chkdR, hm]
                · rw [e] at g2
                  simp [g2, e, j0, j1]; rfl
              | 3, _, hJ => simp [hJ.1, hJ.2.1, hJ.2.2]
          · rintro ⟨g0, g1, g2⟩
            refine W.of_WE hT mixed M0 _ (by kernel_rfl) ?_
            simp [Try.f90, chkdR, hm, g0, g1, g2]
      · cases hh
    · cases hh
  · cases hh

end Go.Proofs.Ythfbddnpakhjiaa.AL
namespace Go.Proofs.Ythfbddnpakhjiaa.AL
open Go
attribute [local simp] qf cv qbin ibin sbin qun retPost rvOk ctV ctPost marksOk retV resAll resOf V.lt ltL V.ren renL V.exp V.exp1 cleanL V.clean closedL V.closed V.cells V.one V.tree
  loadV cellsAt isNC nilQ isSlD isIfD slNew ownRows ownCells V.isOwn slStore srcO qlook mlook mget mstr zval qnone qmake mput lmap isAggD placesOf fillV putCells lstore bound seqParts V.sh shL Blk.sh newV V.ok peqs peq srcRows appOk mmV mmR hidE V.fz fzL Blk.fz fzOk and_assoc
attribute [-simp] Int.not_le Int.not_lt Nat.not_le Nat.not_lt
/-- Is an address greater than another one by at least 2? -/
def aftB (ah al bh bl : Int) : Bool := (nextA 6 bh bl).2.2 && decide (0 < cmpA ah al (nextA 6 bh bl).1 (nextA 6 bh bl).2.1)
def SAft : List V → Option Res
  | [.agg [.int .u64 ah, .int .u64 al], .agg [.int .u64 bh, .int .u64 bl]] => if inA bh bl then some ⟨.bool (aftB ah al bh bl), []⟩ else none
  | _ => none
theorem runs_after : ∀ args r, SAft args = some r → Runs Try.prog 124 args r := by
  intro args r hh
  unfold SAft at hh
  split at hh
  · rename_i ah al bh bl
    split at hh
    · rename_i hin
      cases hh
      have hT : ((T0.add 137 SNext).add 123 SCompare).ok Try.prog := Tab.add_ok (Tab.add_ok (T0_ok _) runs_span_Next) runs_number_Compare
      refine Runs.of_body Try.func124 (by decide) rfl (by simp [Try.f124]) ?_
      refine W.of_WE hT mixed M0 _ (by kernel_rfl) ?_
      cases e : (nextA 6 bh bl).2.2
      · simp [Try.f124, SNext, hin, e, aftB]
      · simp [Try.f124, SNext, hin, e, aftB, SCompare]
    · cases hh
  · cases hh
def SP0 : SP := ⟨0, 0, 0, 0⟩
def aftS (s t : SP) : Bool := aftB s.h s.l t.h' t.l'
def nrmL (l : List SP) : Bool := (List.range (l.length - 1)).all fun i => aftS (l.getD (i + 1) SP0) (l.getD i SP0)
theorem nrmL_iff {l : List SP} : nrmL l = true ↔ ∀ i (h : i + 1 < l.length), aftS l[i + 1] (l[i]'(by omega)) = true := by
  unfold nrmL
  rw [List.all_eq_true]
  constructor
  · intro h i hi
    have := h i (List.mem_range.2 (by omega))
    simpa [hi, show i < l.length by omega] using this
  · intro h i hi
    rw [List.mem_range] at hi
    simpa [show i + 1 < l.length by omega, show i < l.length by omega] using h i (by omega)
def SNrm : List V → Option Res
  | [.rd 4 rows] => match spsOf rows with
    | some l => if (∀ s ∈ l, inSP s) ∧ l.length ≤ 1000000 then some ⟨.bool (nrmL l), []⟩ else none
    | none => none
  | _ => none
def chkR (r : RS) : Int := if chkdR r ≠ 0 then chkdR r else if nrmL r.l4 = true ∧ nrmL r.l6 = true ∧ nrmL (r.la.map wideS) = true then 0 else 8
def SChkR : List V → Option Res
  | [.agg cs] => match rsOf cs with
    | some r => if inRS r ∧ lenRS 1000000 r then some ⟨.int .i64 (chkR r), []⟩ else none
    | none => none
  | _ => none
theorem nrm_at {l : List SP} (hin : ∀ s ∈ l, inSP s) (hlen : l.length ≤ 1000000) : SNrm [.rd 4 (sRows l)] = some ⟨.bool (nrmL l), []⟩ := by
  simp only [SNrm, sRows_parse]
  rw [if_pos ⟨hin, hlen⟩]
theorem chkd_at {r : RS} (hin : inRS r) (hlen : lenRS 1000000 r) : SChkd [.agg r.cells] = some ⟨.int .i64 (chkdR r), []⟩ := by
  simp only [SChkd, rsOf_cells]
  rw [if_pos ⟨hin, hlen⟩]
end Go.Proofs.Ythfbddnpakhjiaa.AL
namespace Go.Proofs.Ythfbddnpakhjiaa.AL
open Go
attribute [local simp] qf cv qbin ibin sbin qun retPost rvOk ctV ctPost marksOk retV resAll resOf V.lt ltL V.ren renL V.exp V.exp1 cleanL V.clean closedL V.closed V.cells V.one V.tree
  loadV cellsAt isNC nilQ isSlD isIfD slNew ownRows ownCells V.isOwn slStore srcO qlook mlook mget mstr zval qnone qmake mput lmap isAggD placesOf fillV putCells lstore bound seqParts V.sh shL Blk.sh newV V.ok peqs peq srcRows appOk mmV mmR hidE V.fz fzL Blk.fz fzOk and_assoc
attribute [-simp] Int.not_le Int.not_lt Nat.not_le Nat.not_lt
/-- What is known amid a difference: where the rest begins, is there any, what has come out. -/
structure MSt where
  h : Int
  l : Int
  o : Bool
  out : List SP
def mstep (s : SP) (m : MSt) (x : SP) : MSt :=
  if cmpA x.h' x.l' m.h m.l < 0 ∨ 0 < cmpA x.h x.l s.h' s.l' ∨ m.o = false then m else
    ⟨(nextA 6 x.h' x.l').1, (nextA 6 x.h' x.l').2.1, (nextA 6 x.h' x.l').2.2 && decide (cmpA (nextA 6 x.h' x.l').1 (nextA 6 x.h' x.l').2.1 s.h' s.l' ≤ 0),
      if (prevA x.h x.l).2.2 = true ∧ cmpA m.h m.l (prevA x.h x.l).1 (prevA x.h x.l).2.1 ≤ 0 then m.out ++ [⟨m.h, m.l, (prevA x.h x.l).1, (prevA x.h x.l).2.1⟩] else m.out⟩
def mfold (s : SP) (b : List SP) (out : List SP) : MSt := b.foldl (mstep s) ⟨s.h, s.l, true, out⟩
def m1 (b : List SP) (out : List SP) (s : SP) : List SP := if (mfold s b out).o = true then (mfold s b out).out ++ [⟨(mfold s b out).h, (mfold s b out).l, s.h', s.l'⟩] else (mfold s b out).out
def minS (a b : List SP) : List SP := a.foldl (m1 b) []
theorem mstep_len (s : SP) (m : MSt) (x : SP) : (mstep s m x).out.length ≤ m.out.length + 1 := by
  unfold mstep
  split
  · omega
  · simp only
    split <;> simp
theorem mfold_snoc {s : SP} {b : List SP} {out : List SP} {j : Nat} (h : j < b.length) : mfold s (b.take (j + 1)) out = mstep s (mfold s (b.take j) out) b[j] := by
  unfold mfold
  rw [take_snoc' b j h, List.foldl_append]; rfl
theorem mfold_len {s : SP} {b : List SP} {out : List SP} : ∀ j, j ≤ b.length → (mfold s (b.take j) out).out.length ≤ out.length + j
  | 0, _ => by simp [mfold]
  | j + 1, h => by
    rw [mfold_snoc (by omega)]
    have := mstep_len s (mfold s (b.take j) out) (b[j]'(by omega))
    have := mfold_len (s := s) (b := b) (out := out) j (by omega)
    omega
theorem m1_len {s : SP} {b : List SP} {out : List SP} : (m1 b out s).length ≤ out.length + (b.length + 1) := by
  have := mfold_len (s := s) (b := b) (out := out) b.length (Nat.le_refl _)
  rw [List.take_length] at this
  unfold m1
  split <;> simp <;> omega
theorem minS_snoc {a b : List SP} {k : Nat} (h : k < a.length) : minS (a.take (k + 1)) b = m1 b (minS (a.take k) b) a[k] := by
  unfold minS
  rw [take_snoc' a k h, List.foldl_append]; rfl
theorem minS_len {a b : List SP} : ∀ k, k ≤ a.length → (minS (a.take k) b).length ≤ k * (b.length + 1)
  | 0, _ => by simp [minS]
  | k + 1, h => by
    rw [minS_snoc (by omega)]
    have := m1_len (s := a[k]'(by omega)) (b := b) (out := minS (a.take k) b)
    have := minS_len (a := a) (b := b) k (by omega)
    rw [Nat.add_mul]
    omega
theorem sRows_snoc (l : List SP) (s : SP) : sRows l ++ [s.row] = sRows (l ++ [s]) := by simp [sRows]
def SMin : List V → Option Res
  | [.rd 4 ra, .rd 4 rb] => match spsOf ra, spsOf rb with
    | some a, some b => if (∀ s ∈ a, inSP s) ∧ (∀ s ∈ b, inSP s) ∧ a.length ≤ 1000 ∧ b.length ≤ 1000 then some ⟨.own 0, [.sl 4 79 (sRows (minS a b))]⟩ else none
    | _, _ => none
  | _ => none
end Go.Proofs.Ythfbddnpakhjiaa.AL
namespace Go.Proofs.Ythfbddnpakhjiaa.AL
open Go
attribute [local simp] qf cv qbin ibin sbin qun retPost rvOk ctV ctPost marksOk retV resAll resOf V.lt ltL V.ren renL V.exp V.exp1 cleanL V.clean closedL V.closed V.cells V.one V.tree
  loadV cellsAt isNC nilQ isSlD isIfD slNew ownRows ownCells V.isOwn slStore srcO qlook mlook mget mstr zval qnone qmake mput lmap isAggD placesOf fillV putCells lstore bound seqParts V.sh shL Blk.sh newV V.ok peqs peq srcRows appOk mmV mmR hidE V.fz fzL Blk.fz fzOk and_assoc
attribute [-simp] Int.not_le Int.not_lt Nat.not_le Nat.not_lt
def SOr2 : List V → Option Res
  | [.rd 1 [[.int .i64 a], [.int .i64 b]]] => some ⟨.int .i64 (if a = 0 then b else a), []⟩
  | _ => none
theorem runs_cmp_Or_Errno : ∀ args r, SOr2 args = some r → Runs Try.prog 34 args r := by
  intro args r hh
  unfold SOr2 at hh
  split at hh
  · rename_i a b
    cases hh
    refine Runs.of_body Try.func34 (by decide) rfl (by simp [Try.f34]) ?_
    refine W.seqE (T0_ok _) mixed M0 (by kernel_rfl) ?_
    simp [Try.f34]
    refine W.seqE (T0_ok _) mixed M0 (by kernel_rfl) ?_
    simp [Try.f34]
    refine W.cut (a = 0 ∧ b = 0) [(3, .int .i64 0)] [] 18 ?_ ?_
    · refine W.seqE (T0_ok _) mixed M0 (by kernel_rfl) ?_
      simp [Try.f34]
      refine W.block (W.for (fun k => (0 < k → a = 0) ∧ (1 < k → b = 0)) (fun k => [(3, .int .i64 0), (6, .rd 1 [[.int .i64 a], [.int .i64 b]]), (7, .int .i64 2), (8, .int .i64 k)]) (fun k => []) 18 2 (by simp) ?_ ?_)
      · simp
      · intro k hk hJ
        refine W.of_WE (T0_ok _) mixed M0 _ (by kernel_rfl) ?_
        match k, hk, hJ with
        | 0, _, hJ =>
          by_cases ha : a = 0
          · simp [ha]; rfl
          · simp [ha]
        | 1, _, hJ =>
          by_cases hb : b = 0
          · simp [hb, hJ.1 (by omega)]; rfl
          · simp [hb, hJ.1 (by omega)]
        | 2, _, hJ => simp [hJ.1, hJ.2]
    · intro ⟨ha, hb⟩
      refine W.of_WE (T0_ok _) mixed M0 _ (by kernel_rfl) ?_
      simp [Try.f34, ha, hb]
  · cases hh

end Go.Proofs.Ythfbddnpakhjiaa.AL
namespace Go.Proofs.Ythfbddnpakhjiaa.AL
open Go
attribute [local simp] qf cv qbin ibin sbin qun retPost rvOk ctV ctPost marksOk retV resAll resOf V.lt ltL V.ren renL V.exp V.exp1 cleanL V.clean closedL V.closed V.cells V.one V.tree
  loadV cellsAt isNC nilQ isSlD isIfD slNew ownRows ownCells V.isOwn slStore srcO qlook mlook mget mstr zval qnone qmake mput lmap isAggD placesOf fillV putCells lstore bound seqParts V.sh shL Blk.sh newV V.ok peqs peq srcRows appOk mmV mmR hidE V.fz fzL Blk.fz fzOk and_assoc
attribute [-simp] Int.not_le Int.not_lt Nat.not_le Nat.not_lt
theorem chkR_at {r : RS} (hin : inRS r) (hlen : lenRS 1000000 r) : SChkR [.agg r.cells] = some ⟨.int .i64 (chkR r), []⟩ := by
  simp only [SChkR, rsOf_cells]
  rw [if_pos ⟨hin, hlen⟩]
theorem chkR_len {r : RS} (h : chkR r = 0) : lenRS 200 r := by
  unfold chkR at h
  split at h
  · omega
  · rename_i h1
    have h2 : chkdR r = 0 := by omega
    unfold chkdR at h2
    split at h2
    · omega
    · rename_i h3
      exact ⟨by omega, by omega, by omega⟩
theorem min_at {a b : List SP} (ha : ∀ s ∈ a, inSP s) (hb : ∀ s ∈ b, inSP s) (la : a.length ≤ 1000) (lb : b.length ≤ 1000) : SMin [.rd 4 (sRows a), .rd 4 (sRows b)] = some ⟨.own 0, [.sl 4 79 (sRows (minS a b))]⟩ := by
  simp only [SMin, sRows_parse]
  rw [if_pos ⟨ha, hb, la, lb⟩]
/-- One error, or the other. -/
def orE2 (a b : Int) : Int := if a = 0 then b else a
def subL (a b : List SP) : Bool := (minS a b).isEmpty
def contR (a b : RS) : Bool := subL b.l4 a.l4 && subL b.l6 a.l6 && subL (b.la.map wideS) (a.la.map wideS)
def SCont : List V → Option Res
  | [.agg ca, .agg cb] => match rsOf ca, rsOf cb with
    | some a, some b => if inRS a ∧ inRS b ∧ lenRS 1000000 a ∧ lenRS 1000000 b then
        (if orE2 (chkR a) (chkR b) ≠ 0 then some ⟨.tup [.bool false, .int .i64 (orE2 (chkR a) (chkR b))], []⟩ else some ⟨.tup [.bool (contR a b), .int .i64 0], []⟩) else none
    | _, _ => none
  | _ => none
theorem subL_len {a b : List SP} : subL a b = true ↔ ¬ (0 < (minS a b).length) := by
  unfold subL
  rw [List.isEmpty_iff_length_eq_zero]
  omega
end Go.Proofs.Ythfbddnpakhjiaa.AL
namespace Go.Proofs.Ythfbddnpakhjiaa.AL
open Go
attribute [local simp] qf cv qbin ibin sbin qun retPost rvOk ctV ctPost marksOk retV resAll resOf V.lt ltL V.ren renL V.exp V.exp1 cleanL V.clean closedL V.closed V.cells V.one V.tree
  loadV cellsAt isNC nilQ isSlD isIfD slNew ownRows ownCells V.isOwn slStore srcO qlook mlook mget mstr zval qnone qmake mput lmap isAggD placesOf fillV putCells lstore bound seqParts V.sh shL Blk.sh newV V.ok peqs peq srcRows appOk mmV mmR hidE V.fz fzL Blk.fz fzOk and_assoc
attribute [-simp] Int.not_le Int.not_lt Nat.not_le Nat.not_lt
def SEqSp : List V → Option Res
  | [.rd 4 r1, .rd 4 r2] => match spsOf r1, spsOf r2 with
    | some a, some b => if a.length ≤ 1000000 ∧ b.length ≤ 1000000 then some ⟨.bool (decide (a = b)), []⟩ else none
    | _, _ => none
  | _ => none
def SEqAs : List V → Option Res
  | [.rd 2 r1, .rd 2 r2] => match assOf r1, assOf r2 with
    | some a, some b => if a.length ≤ 1000000 ∧ b.length ≤ 1000000 then some ⟨.bool (decide (a = b)), []⟩ else none
    | _, _ => none
  | _ => none
end Go.Proofs.Ythfbddnpakhjiaa.AL
namespace Go.Proofs.Ythfbddnpakhjiaa.AL
open Go
attribute [local simp] qf cv qbin ibin sbin qun retPost rvOk ctV ctPost marksOk retV resAll resOf V.lt ltL V.ren renL V.exp V.exp1 cleanL V.clean closedL V.closed V.cells V.one V.tree
  loadV cellsAt isNC nilQ isSlD isIfD slNew ownRows ownCells V.isOwn slStore srcO qlook mlook mget mstr zval qnone qmake mput lmap isAggD placesOf fillV putCells lstore bound seqParts V.sh shL Blk.sh newV V.ok peqs peq srcRows appOk mmV mmR hidE V.fz fzL Blk.fz fzOk and_assoc
attribute [-simp] Int.not_le Int.not_lt Nat.not_le Nat.not_lt
def prefR (r : RS) (f h l n : Int) : List SP := minS [⟨h, l, (lastA h l (widN f - n.toNat)).1, (lastA h l (widN f - n.toNat)).2⟩] (if f = 6 then r.l6 else r.l4)
def SHasP : List V → Option Res
  | [.agg cs, .agg [.int .u8 f, .int .u64 h, .int .u64 l, .int .i64 n]] => match rsOf cs with
    | some r => if inRS r ∧ lenRS 1000000 r ∧ inA h l then
        (if orE2 (chkR r) (chkP f h l n) ≠ 0 then some ⟨.tup [.bool false, .int .i64 (orE2 (chkR r) (chkP f h l n))], []⟩ else some ⟨.tup [.bool (prefR r f h l n).isEmpty, .int .i64 0], []⟩) else none
    | none => none
  | _ => none
theorem sRows_closed (ty : TypeId) (l : List SP) : (Blk.sl 4 ty (sRows l)).closed := by
  intro r hr c hc
  obtain ⟨s, hs, rfl⟩ := List.mem_map.1 hr
  simp only [SP.row, List.mem_cons, List.mem_nil_iff, or_false] at hc
  rcases hc with rfl | rfl | rfl | rfl <;> rfl
theorem dec_nil (l : List SP) : decide (l = []) = l.isEmpty := by cases l <;> simp
theorem chkP_zero {f h l n : Int} (h0 : chkP f h l n = 0) : cAddr f h l = true ∧ 0 ≤ n ∧ n ≤ widN f := by
  unfold chkP at h0
  split at h0
  · omega
  · split at h0
    · assumption
    · omega
/-- Is a number in a span of numbers? -/
def inN (x : Int) (s : AS) : Bool := decide (s.a ≤ x) && decide (x ≤ s.b)
def SAs1 : List V → Option Res
  | [.agg [.int .u32 a, .int .u32 b], .rptr [.int .u32 x] 0] => some ⟨.bool (inN x ⟨a, b⟩), []⟩
  | _ => none
def inNR (x : Int) (r : List V) : Bool := match asOf r with
  | some s => inN x s
  | none => false
theorem any_inNR {x : Int} {l : List AS} : (aRows l).any (inNR x) = l.any (inN x) := by
  unfold aRows
  rw [List.any_map]
  congr 1
def SHasA : List V → Option Res
  | [.agg cs, .int .u32 x] => match rsOf cs with
    | some r => if inRS r ∧ lenRS 1000000 r then
        (if chkR r ≠ 0 then some ⟨.tup [.bool false, .int .i64 (chkR r)], []⟩ else some ⟨.tup [.bool (r.la.any (inN x)), .int .i64 0], []⟩) else none
    | none => none
  | _ => none
def sameR (a b : RS) : Bool := decide (a.l4 = b.l4) && decide (a.l6 = b.l6) && decide (a.la = b.la)
def SSameR : List V → Option Res
  | [.agg ca, .agg cb] => match rsOf ca, rsOf cb with
    | some a, some b => if lenRS 1000000 a ∧ lenRS 1000000 b then some ⟨.bool (sameR a b), []⟩ else none
    | _, _ => none
  | _ => none
theorem eqSp_at {a b : List SP} (la : a.length ≤ 1000000) (lb : b.length ≤ 1000000) : SEqSp [.rd 4 (sRows a), .rd 4 (sRows b)] = some ⟨.bool (decide (a = b)), []⟩ := by
  simp only [SEqSp, sRows_parse]
  rw [if_pos ⟨la, lb⟩]
theorem eqAs_at {a b : List AS} (la : a.length ≤ 1000000) (lb : b.length ≤ 1000000) : SEqAs [.rd 2 (aRows a), .rd 2 (aRows b)] = some ⟨.bool (decide (a = b)), []⟩ := by
  simp only [SEqAs, aRows_parse]
  rw [if_pos ⟨la, lb⟩]
def SEmpR : List V → Option Res
  | [.agg cs] => match rsOf cs with
    | some r => if lenRS 1000000 r then some ⟨.bool (decide (r.l4.length + r.l6.length + r.la.length = 0)), []⟩ else none
    | none => none
  | _ => none
end Go.Proofs.Ythfbddnpakhjiaa.AL
namespace Go.Proofs.Ythfbddnpakhjiaa.AL
open Go
attribute [local simp] qf cv qbin ibin sbin qun retPost rvOk ctV ctPost marksOk retV resAll resOf V.lt ltL V.ren renL V.exp V.exp1 cleanL V.clean closedL V.closed V.cells V.one V.tree
  loadV cellsAt isNC nilQ isSlD isIfD slNew ownRows ownCells V.isOwn slStore srcO qlook mlook mget mstr zval qnone qmake mput lmap isAggD placesOf fillV putCells lstore bound seqParts V.sh shL Blk.sh newV V.ok peqs peq srcRows appOk mmV mmR hidE V.fz fzL Blk.fz fzOk and_assoc
attribute [-simp] Int.not_le Int.not_lt Nat.not_le Nat.not_lt
theorem lists_at {r : RS} (hin : inRS r) (hlen : lenRS 1000000 r) : SLists [.agg r.cells] = some ⟨.tup [.rd 1 (lstRows r), .rd 1 famRows], []⟩ := by
  simp only [SLists, RS.cells, aRows_parse]
  rw [if_pos ⟨hin.2.2, hlen.2.2⟩]
  rfl
theorem any_iff {f : Int} {l : List SP} : goodL f l = true ↔ ∀ i (h : i < l.length), chkS f l[i].h l[i].l l[i].h' l[i].l' = 0 := by
  unfold goodL
  rw [Bool.not_eq_true', List.any_eq_false]
  constructor
  · intro h i hi
    have := h l[i] (List.getElem_mem hi)
    simpa [badS] using this
  · intro h s hs
    obtain ⟨i, hi, rfl⟩ := List.mem_iff_getElem.1 hs
    simp [badS, h i hi]
theorem chkdR_4 {r : RS} {k : Nat} (hk : k < 3) (h : 200 < (r.lst k).length) : chkdR r = 4 := by
  unfold chkdR
  rw [if_pos]
  match k, hk, h with
  | 0, _, h => exact .inl h
  | 1, _, h => exact .inr (.inl h)
  | 2, _, h => simp only [RS.lst, List.length_map] at h; exact .inr (.inr h)
theorem lens_iff {r : RS} : (¬ (200 < r.l4.length ∨ 200 < r.l6.length ∨ 200 < r.la.length)) ↔ ∀ k, k < 3 → (r.lst k).length ≤ 200 := by
  constructor
  · intro h k hk
    match k, hk with
    | 0, _ => simp only [RS.lst]; omega
    | 1, _ => simp only [RS.lst]; omega
    | 2, _ => simp only [RS.lst, List.length_map]; omega
  · intro hh
    obtain ⟨h0, h1, h2⟩ := forall3 hh
    simp only [RS.lst, List.length_map] at h0 h1 h2
    omega
theorem chkdR_8 {r : RS} (hl : ∀ k, k < 3 → (r.lst k).length ≤ 200) {k : Nat} (hk : k < 3) (h : goodL (famK k) (r.lst k) = false) : chkdR r = 8 := by
  unfold chkdR
  rw [if_neg (lens_iff.2 hl), if_neg]
  rintro ⟨g0, g1, g2⟩
  match k, hk, h with
  | 0, _, h => exact absurd (h.symm.trans g0) (by simp)
  | 1, _, h => exact absurd (h.symm.trans g1) (by simp)
  | 2, _, h => exact absurd (h.symm.trans g2) (by simp)
theorem chkdR_0 {r : RS} : chkdR r = 0 ↔ (∀ k, k < 3 → (r.lst k).length ≤ 200) ∧ ∀ k, k < 3 → goodL (famK k) (r.lst k) = true := by
  unfold chkdR
  rw [← lens_iff]
  have e : (goodL 4 r.l4 = true ∧ goodL 6 r.l6 = true ∧ goodL 4 (r.la.map wideS) = true) ↔ ∀ k, k < 3 → goodL (famK k) (r.lst k) = true := by
    constructor
    · rintro ⟨g0, g1, g2⟩ k hk
      match k, hk with
      | 0, _ => exact g0
      | 1, _ => exact g1
      | 2, _ => exact g2
    · exact fun h => forall3 h
  rw [← e]
  split
  · simp_all
  · split <;> simp_all
def M_f95 : Md := fun i => if i = 13 then some #[0, 0, 3, 7, 0, 0, 48, 112, 0, 496, 1008, 2047, 4095] else some #[]
@[simp] theorem M_f95_eq {i : Nat} : M_f95 i = (if i = 13 then some #[0, 0, 3, 7, 0, 0, 48, 112, 0, 496, 1008, 2047, 4095] else some #[]) := rfl
theorem runs_ref03_Valid : ∀ args r, SChkd args = some r → Runs Try.prog 95 args r := by
  intro args r hh
  unfold SChkd at hh
  split at hh
  · rename_i cs
    split at hh
    · rename_i r hr
      split at hh
      · rename_i hin
        obtain ⟨hin, hlen⟩ := hin
        cases hh
        have h1 := rsOf_eq hr
        subst h1
        have hs := lists_at hin hlen
        have hT : ((T0.add 71 SLists).add 128 SChkS).ok Try.prog := Tab.add_ok (Tab.add_ok (T0_ok _) runs_ref03_lists) runs_ref02_Check
        simp only [RS.cells] at hs ⊢
        refine Runs.of_body Try.func95 (by decide) rfl (by simp [Try.f95]) ?_
        refine W.seqE hT mixed M_f95 (by kernel_rfl) ?_
        simp [Try.f95]
        refine W.seqE hT mixed M_f95 (by kernel_rfl) ?_
        simp [hs]
        refine W.cut (∀ k, k < 3 → (r.lst k).length ≤ 200) [(3, .rd 1 (lstRows r)), (4, .rd 1 famRows)] [] 49 ?_ ?_
        · refine W.seqE hT mixed M_f95 (by kernel_rfl) ?_
          simp
          refine W.block (W.for (fun k => ∀ j, j < k → (r.lst j).length ≤ 200) (fun k => [(3, .rd 1 (lstRows r)), (4, .rd 1 famRows), (5, .int .i64 k)]) (fun k => []) 49 3 (fun j hj => absurd hj (by omega)) ?_ ?_)
          · simp
          · intro k hk hJ
            refine W.of_WE hT mixed M_f95 _ (by kernel_rfl) ?_
            by_cases hlt : k < 3
            · have hw1 : IntKind.i64.wrap ((k : Int) + 1) = k + 1 := wr_i64 (by omega) (by omega)
              have hlt' : (k : Int) < 3 := by omega
              by_cases c : (200 : Int) < (r.lst k).length
              · have hv : chkdR r = 4 := chkdR_4 hlt (by omega)
                simp [hlt, hlt', c, hv, lstRows_get r hlt]
              · have hJ' : ∀ j, j < k + 1 → (r.lst j).length ≤ 200 := by
                  intro j hj
                  rcases Nat.lt_or_ge j k with g | g
                  · exact hJ j g
                  · rw [show j = k by omega]; omega
                simp [hlt, hlt', c, hw1, lstRows_get r hlt]
                exact hJ'
            · have : k = 3 := by omega
              subst this
              simp
              exact hJ
        · intro hL
          refine W.cut (∀ k, k < 3 → goodL (famK k) (r.lst k) = true) [] [] 49 ?_ ?_
          · refine W.seqE hT mixed M_f95 (by kernel_rfl) ?_
            simp [Try.f95]
            refine W.block (W.for (fun k => ∀ j, j < k → goodL (famK j) (r.lst j) = true) (fun k => [(3, .rd 1 (lstRows r)), (4, .rd 1 famRows), (6, .int .i64 k)]) (fun k => []) 49 3 (fun j hj => absurd hj (by omega)) ?_ ?_)
            · simp
            · intro k hk hJ
              refine W.seqE hT mixed M_f95 (by kernel_rfl) ?_
              by_cases hlt : k < 3
              · have hw1 : IntKind.i64.wrap ((k : Int) + 1) = k + 1 := wr_i64 (by omega) (by omega)
                have hlt' : (k : Int) < 3 := by omega
                have hlk := hL k hlt
                simp [hlt, hlt']
                refine W.cut (goodL (famK k) (r.lst k) = true) [(3, .rd 1 (lstRows r)), (4, .rd 1 famRows), (6, .int .i64 k)] [] 49 ?_ ?_
                · refine W.block ?_
                  refine W.seqE hT mixed M_f95 (by kernel_rfl) ?_
                  simp
                  refine W.block (W.for (fun i => ∀ j (hj : j < i) (h : j < (r.lst k).length), chkS (famK k) (r.lst k)[j].h (r.lst k)[j].l (r.lst k)[j].h' (r.lst k)[j].l' = 0) (fun i => [(3, .rd 1 (lstRows r)), (4, .rd 1 famRows), (6, .int .i64 k), (7, .int .i64 i)]) (fun _ => []) 49 (r.lst k).length (fun j hj => absurd hj (by omega)) ?_ ?_)
                  · simp
                  · intro i hi hJi
                    refine W.of_WE hT mixed M_f95 _ (by kernel_rfl) ?_
                    by_cases hil : i < (r.lst k).length
                    · have hw2 : IntKind.i64.wrap ((i : Int) + 1) = i + 1 := wr_i64 (by omega) (by omega)
                      by_cases c : chkS (famK k) (r.lst k)[i].h (r.lst k)[i].l (r.lst k)[i].h' (r.lst k)[i].l' = 0
                      · have hJ' : ∀ j (hj : j < i + 1) (h : j < (r.lst k).length), chkS (famK k) (r.lst k)[j].h (r.lst k)[j].l (r.lst k)[j].h' (r.lst k)[j].l' = 0 := by
                          intro j hj h
                          rcases Nat.lt_or_ge j i with g | g
                          · exact hJi j g h
                          · have : j = i := by omega
                            subst this; exact c
                        simp [hlt, hlt', hil, lstRows_get r hlt, famRows_get hlt, SP.row, SChkS, c, hw2]
                        exact hJ'
                      · have hgf : goodL (famK k) (r.lst k) = false := by
                          rw [Bool.eq_false_iff]
                          intro h
                          exact c (any_iff.1 h i hil)
                        have hv : chkdR r = 8 := chkdR_8 hL hlt hgf
                        simp [hlt, hlt', hil, lstRows_get r hlt, famRows_get hlt, SP.row, SChkS, c, hv]
                    · have : i = (r.lst k).length := by omega
                      subst this
                      simp [hlt, hlt', lstRows_get r hlt]
                      exact any_iff.2 (fun i hi => hJi i hi hi)
                · intro hg
                  have hJ' : ∀ j, j < k + 1 → goodL (famK j) (r.lst j) = true := by
                    intro j hj
                    rcases Nat.lt_or_ge j k with g | g
                    · exact hJ j g
                    · rw [show j = k by omega]; exact hg
                  refine W.of_WE hT mixed M_f95 _ (by kernel_rfl) ?_
                  simp [hw1, hlt]
                  exact hJ'
              · have : k = 3 := by omega
                subst this
                simp
                exact hJ
          · intro hg
            have hv : chkdR r = 0 := chkdR_0.2 ⟨hL, hg⟩
            refine W.of_WE hT mixed M_f95 _ (by kernel_rfl) ?_
            simp [Try.f95, hv]
      · cases hh
    · cases hh
  · cases hh

end Go.Proofs.Ythfbddnpakhjiaa.AL
namespace Go.Proofs.Ythfbddnpakhjiaa.AL
open Go
attribute [local simp] qf cv qbin ibin sbin qun retPost rvOk ctV ctPost marksOk retV resAll resOf V.lt ltL V.ren renL V.exp V.exp1 cleanL V.clean closedL V.closed V.cells V.one V.tree
  loadV cellsAt isNC nilQ isSlD isIfD slNew ownRows ownCells V.isOwn slStore srcO qlook mlook mget mstr zval qnone qmake mput lmap isAggD placesOf fillV putCells lstore bound seqParts V.sh shL Blk.sh newV V.ok peqs peq srcRows appOk mmV mmR hidE V.fz fzL Blk.fz fzOk and_assoc
attribute [-simp] Int.not_le Int.not_lt Nat.not_le Nat.not_lt
theorem chk_parts {f : Int} {s : SP} (h : chkS f s.h s.l s.h' s.l' = 0) (hs : inSP s) : inA s.h s.l ∧ inA s.h' s.l' ∧ cAddr f s.h s.l = true ∧ cAddr f s.h' s.l' = true ∧ numA (s.h, s.l) ≤ numA (s.h', s.l') := by
  obtain ⟨h1, h2, h3⟩ := chkS_zero h
  obtain ⟨s1, s2, s3, s4, s5, s6, s7, s8⟩ := hs
  have i1 : inA s.h s.l := ⟨s1, s2, s3, s4⟩
  have i2 : inA s.h' s.l' := ⟨s5, s6, s7, s8⟩
  exact ⟨i1, i2, h1, h2, (cmpA_le i1 i2).1 h3⟩
theorem cAddr6 (h l : Int) : cAddr 6 h l = true := rfl
theorem cmpA_gt {a b c d : Int} (h1 : inA a b) (h2 : inA c d) : 0 < cmpA a b c d ↔ numA (c, d) < numA (a, b) := by
  obtain ⟨a0, a1, b0, b1⟩ := h1
  obtain ⟨c0, c1, d0, d1⟩ := h2
  unfold cmpA numA
  simp only
  split
  · omega
  · split <;> omega
theorem cmpA_ge {a b c d : Int} (h1 : inA a b) (h2 : inA c d) : 0 ≤ cmpA a b c d ↔ numA (c, d) ≤ numA (a, b) := by
  obtain ⟨a0, a1, b0, b1⟩ := h1
  obtain ⟨c0, c1, d0, d1⟩ := h2
  unfold cmpA numA
  simp only
  split
  · omega
  · split <;> omega
/-- Two more than the other, in numbers. -/
theorem aftB_iff {ah al bh bl : Int} (ha : inA ah al) (hb : inA bh bl) : aftB ah al bh bl = true ↔ numA (bh, bl) + 1 < numA (ah, al) := by
  have hn := nextA_num hb (cAddr6 bh bl)
  have hA := numA_lt ha (cAddr6 ah al)
  have hw : widN 6 = 128 := rfl
  rw [hw] at hn hA
  unfold aftB
  rcases ltge (numA (bh, bl) + 1) (2 ^ 128) with h | h
  · obtain ⟨x, y, e, hxy, hi⟩ := hn.1 h
    rw [e]
    simp only [Bool.true_and, decide_eq_true_eq]
    rw [cmpA_gt ha hi, hxy]
  · have hB := numA_lt hb (cAddr6 bh bl)
    rw [hw] at hB
    rw [hn.2 (by omega)]
    simp only [Bool.false_and, Bool.false_eq_true, false_iff]
    omega
/-- The same with the family's own next address. -/
theorem nxt_iff {f ah al bh bl : Int} (ha : inA ah al) (hb : inA bh bl) (ca : cAddr f ah al = true) (cb : cAddr f bh bl = true) :
    ((nextA f bh bl).2.2 = true ∧ ¬ 0 ≤ cmpA (nextA f bh bl).1 (nextA f bh bl).2.1 ah al) ↔ numA (bh, bl) + 1 < numA (ah, al) := by
  have hn := nextA_num hb cb
  have hA := numA_lt ha ca
  have hB := numA_lt hb cb
  rcases ltge (numA (bh, bl) + 1) (2 ^ widN f) with h | h
  · obtain ⟨x, y, e, hxy, hi⟩ := hn.1 h
    rw [e]
    simp only [true_and]
    rw [cmpA_ge hi ha, hxy]
    omega
  · rw [hn.2 (by omega)]
    simp only [Bool.false_eq_true, false_and, false_iff]
    omega
theorem aftS_nxt {f : Int} {s t : SP} (hs : inSP s) (ht : inSP t) (cs : chkS f s.h s.l s.h' s.l' = 0) (ct : chkS f t.h t.l t.h' t.l' = 0) :
    aftS s t = true ↔ ((nextA f t.h' t.l').2.2 = true ∧ ¬ 0 ≤ cmpA (nextA f t.h' t.l').1 (nextA f t.h' t.l').2.1 s.h s.l) := by
  obtain ⟨s1, s2, s3, s4, s5⟩ := chk_parts cs hs
  obtain ⟨t1, t2, t3, t4, t5⟩ := chk_parts ct ht
  rw [nxt_iff s1 t2 s3 t4]
  exact aftB_iff s1 t2
theorem chkR_0 {r : RS} : chkR r = 0 ↔ chkdR r = 0 ∧ ∀ k, k < 3 → nrmL (r.lst k) = true := by
  unfold chkR
  have e : (nrmL r.l4 = true ∧ nrmL r.l6 = true ∧ nrmL (r.la.map wideS) = true) ↔ ∀ k, k < 3 → nrmL (r.lst k) = true := by
    constructor
    · rintro ⟨g0, g1, g2⟩ k hk
      match k, hk with
      | 0, _ => exact g0
      | 1, _ => exact g1
      | 2, _ => exact g2
    · exact fun h => forall3 h
  rw [← e]
  split
  · simp_all
  · split <;> simp_all
theorem chkR_8 {r : RS} (h0 : chkdR r = 0) {k : Nat} (hk : k < 3) (h : nrmL (r.lst k) = false) : chkR r = 8 := by
  unfold chkR
  rw [if_neg (by omega), if_neg]
  rintro ⟨g0, g1, g2⟩
  match k, hk, h with
  | 0, _, h => exact absurd (h.symm.trans g0) (by simp)
  | 1, _, h => exact absurd (h.symm.trans g1) (by simp)
  | 2, _, h => exact absurd (h.symm.trans g2) (by simp)
def SBoth : List V → Option Res
  | [.agg ca, .agg cb] => match rsOf ca, rsOf cb with
    | some a, some b => if inRS a ∧ inRS b ∧ lenRS 1000000 a ∧ lenRS 1000000 b then some ⟨.int .i64 (orE2 (chkR a) (chkR b)), []⟩ else none
    | _, _ => none
  | _ => none
end Go.Proofs.Ythfbddnpakhjiaa.AL
namespace Go.Proofs.Ythfbddnpakhjiaa.AL
open Go
attribute [local simp] qf cv qbin ibin sbin qun retPost rvOk ctV ctPost marksOk retV resAll resOf V.lt ltL V.ren renL V.exp V.exp1 cleanL V.clean closedL V.closed V.cells V.one V.tree
  loadV cellsAt isNC nilQ isSlD isIfD slNew ownRows ownCells V.isOwn slStore srcO qlook mlook mget mstr zval qnone qmake mput lmap isAggD placesOf fillV putCells lstore bound seqParts V.sh shL Blk.sh newV V.ok peqs peq srcRows appOk mmV mmR hidE V.fz fzL Blk.fz fzOk and_assoc
attribute [-simp] Int.not_le Int.not_lt Nat.not_le Nat.not_lt
/-- Inserted into an increasing list. -/
def insA : List (Int × Int) → Int × Int → List (Int × Int)
  | [], a => [a]
  | x :: l, a => if cmpA x.1 x.2 a.1 a.2 < 0 then x :: insA l a else if x = a then x :: l else a :: x :: l
theorem insA_at {a : Int × Int} : ∀ {l : List (Int × Int)} {k : Nat} (hk : k ≤ l.length), (∀ i (hi : i < k), cmpA (l[i]'(by omega)).1 (l[i]'(by omega)).2 a.1 a.2 < 0) → (∀ h : k < l.length, ¬ cmpA l[k].1 l[k].2 a.1 a.2 < 0) →
    insA l a = if ∃ h : k < l.length, l[k] = a then l else l.take k ++ a :: l.drop k
  | [], 0, _, _, _ => by simp [insA]
  | x :: l, 0, _, _, h => by
    have := h (by simp)
    simp only [List.getElem_cons_zero] at this
    rw [insA, if_neg this]
    by_cases e : x = a
    · rw [if_pos e, if_pos ⟨by simp, e⟩]
    · rw [if_neg e, if_neg (by rintro ⟨_, h⟩; exact e h)]; rfl
  | x :: l, k + 1, hk, hf, h => by
    have h0 := hf 0 (by omega)
    simp only [List.getElem_cons_zero] at h0
    have ih := insA_at (a := a) (l := l) (k := k) (by simpa using hk) (fun i hi => by have := hf (i + 1) (by omega); simpa using this) (fun h' => by have := h (by simpa using h'); simpa using this)
    rw [insA, if_pos h0, ih]
    by_cases e : ∃ h : k < l.length, l[k] = a
    · rw [if_pos e, if_pos]
      obtain ⟨e1, e2⟩ := e
      exact ⟨by simpa using e1, by simpa using e2⟩
    · rw [if_neg e, if_neg]
      · rfl
      · rintro ⟨e1, e2⟩
        exact e ⟨by simpa using e1, by simpa using e2⟩
def SIns : List V → Option Res
  | [.rd 2 rows, .agg [.int .u64 x, .int .u64 y]] => match adsOf rows with
    | some l => if l.length ≤ 1000000 then some ⟨.rd 2 (adRows (insA l (x, y))), []⟩ else none
    | none => none
  | _ => none
def M_f153 : Md := fun i => if i = 2 then some #[0, 0, 2, 7, 15, 31, 31, 127, 255, 31, 1023, 2047, 4095] else if i = 4 then some #[0, 0, 2, 7, 15, 31, 31, 127, 255, 31, 1023, 2047] else if i = 6 then some #[0, 0, 0, 6, 15, 0, 32, 127, 0, 0, 768, 2047, 4095, 0, 0, 0, 0, 0, 96] else some #[]
@[simp] theorem M_f153_eq {i : Nat} : M_f153 i = (if i = 2 then some #[0, 0, 2, 7, 15, 31, 31, 127, 255, 31, 1023, 2047, 4095] else if i = 4 then some #[0, 0, 2, 7, 15, 31, 31, 127, 255, 31, 1023, 2047] else if i = 6 then some #[0, 0, 0, 6, 15, 0, 32, 127, 0, 0, 768, 2047, 4095, 0, 0, 0, 0, 0, 96] else some #[]) := rfl
theorem runs_ref03_insert : ∀ args r, SIns args = some r → Runs Try.prog 153 args r := by
  intro args r hh
  unfold SIns at hh
  split at hh
  · rename_i rows x y
    split at hh
    · rename_i l hl
      split at hh
      · rename_i hlen
        cases hh
        have h1 := parse_eq adOf_eq hl
        subst h1
        have hT : (T0.add 97 SCompare).ok Try.prog := Tab.add_ok (T0_ok _) runs_ref01_Compare
        refine Runs.of_body Try.func153 (by decide) rfl (by simp [Try.f153]) ?_
        refine W.seqE hT mixed M_f153 (by kernel_rfl) ?_
        simp [Try.f153]
        refine W.seqE hT mixed M_f153 (by kernel_rfl) ?_
        simp
        obtain ⟨N, hN, hNf, hNn⟩ : ∃ N, N ≤ l.length ∧ (∀ i (hi : i < N) (h : i < l.length), cmpA l[i].1 l[i].2 x y < 0) ∧ (∀ h : N < l.length, ¬ cmpA l[N].1 l[N].2 x y < 0) := by
          clear hl hlen
          induction l with
          | nil => exact ⟨0, Nat.le_refl _, fun i hi => absurd hi (by omega), fun h => by simp at h⟩
          | cons z l ih =>
            by_cases c : cmpA z.1 z.2 x y < 0
            · obtain ⟨N, g1, g2, g3⟩ := ih
              refine ⟨N + 1, by simpa using g1, fun i hi h => ?_, fun h => by have := g3 (by simpa using h); simpa using this⟩
              cases i with
              | zero => simpa using c
              | succ i => have := g2 i (by omega) (by simpa using h); simpa using this
            · exact ⟨0, Nat.zero_le _, fun i hi => absurd hi (by omega), fun h => by simpa using c⟩
        have hins := insA_at (a := (x, y)) hN (fun i hi => hNf i hi (by omega)) hNn
        refine W.cut True [(0, .rd 2 (adRows l)), (3, .ptr 0 0), (5, .int .i64 N)] [.box 28 [.int .u64 x, .int .u64 y]] 46 ?_ ?_
        · refine W.block (W.for (fun k => True) (fun k => [(0, .rd 2 (adRows l)), (3, .ptr 0 0), (5, .int .i64 k)]) (fun _ => [.box 28 [.int .u64 x, .int .u64 y]]) 46 N trivial ?_ ?_)
          · simp [adRows]
          · intro k hk _
            refine W.of_WE hT mixed M_f153 _ (by kernel_rfl) ?_
            have hw1 : IntKind.i64.wrap ((k : Int) + 1) = k + 1 := wr_i64 (by omega) (by omega)
            by_cases hlt : k < l.length
            · by_cases hkN : k < N
              · have c := hNf k hkN hlt
                simp [hlt, adRow, SCompare, c, hw1]
                omega
              · have : k = N := by omega
                subst this
                have c := hNn hlt
                simp [hlt, adRow, SCompare, c]
            · have : k = N := by omega
              subst this
              simp [hlt]
        · intro _
          refine W.cut (¬ ∃ h : N < l.length, l[N] = (x, y)) [(0, .rd 2 (adRows l)), (3, .ptr 0 0), (5, .int .i64 N)] [.box 28 [.int .u64 x, .int .u64 y]] 46 ?_ ?_
          · refine W.of_WE hT mixed M_f153 _ (by kernel_rfl) ?_
            by_cases hlt : N < l.length
            · by_cases e : l[N] = (x, y)
              · rw [if_pos ⟨hlt, e⟩] at hins
                have e1 : l[N].1 = x := by rw [e]
                have e2 : l[N].2 = y := by rw [e]
                simp [Try.f153, hlt, adRow, e1, e2, hins]
              · have e' : (decide (l[N].1 = x) && decide (l[N].2 = y)) = false := by
                  rw [Bool.eq_false_iff]
                  intro h
                  simp only [Bool.and_eq_true, decide_eq_true_eq] at h
                  exact e (Prod.ext h.1 h.2)
                simp [Try.f153, hlt, adRow, e', e]
            · simp [Try.f153, hlt]
          · intro hne
            rw [if_neg hne] at hins
            refine W.seqE hT mixed M_f153 (by kernel_rfl) ?_
            simp [hN]
            refine ⟨by omega, by omega, by omega, by omega, by omega, by omega, ?_⟩
            have hrows : List.take N (adRows l) ++ [V.int IntKind.u64 x, V.int IntKind.u64 y] :: List.take (l.length - N) (List.drop N (adRows l)) = adRows (insA l (x, y)) := by
              have e1 : List.take (l.length - N) (List.drop N (adRows l)) = List.drop N (adRows l) := List.take_of_length_le (by simp)
              rw [e1, adRows_take, adRows_drop, hins]
              simp [adRows, adRow]
            rw [hrows]
            refine W.wk (Wk.freeze 89 (.sl 2 28 (adRows (insA l (x, y)))) (by simp) (by simp)) ?_
            refine W.of_WE hT mixed M_f153 _ (by kernel_rfl) ?_
            simp [Try.f153]
      · cases hh
    · cases hh
  · cases hh
def SInL : List V → Option Res
  | [.rd 4 rows, .agg [.int .u64 x, .int .u64 y]] => match spsOf rows with
    | some l => if l.length ≤ 1000000 then some ⟨.bool (l.any fun s => inS s.h s.l s.h' s.l' x y), []⟩ else none
    | none => none
  | _ => none
def inLA (l : List SP) (p : Int × Int) : Bool := l.any fun s => inS s.h s.l s.h' s.l' p.1 p.2
def M_f140 : Md := fun i => if i = 4 then some #[0, 0, 3, 7, 0, 31] else some #[]
@[simp] theorem M_f140_eq {i : Nat} : M_f140 i = (if i = 4 then some #[0, 0, 3, 7, 0, 31] else some #[]) := rfl
theorem runs_ref03_in : ∀ args r, SInL args = some r → Runs Try.prog 140 args r := by
  intro args r hh
  unfold SInL at hh
  split at hh
  · rename_i rows x y
    split at hh
    · rename_i l hl
      split at hh
      · rename_i hlen
        cases hh
        have h1 := parse_eq spOf_eq hl
        subst h1
        have hT : (T0.add 155 SInS).ok Try.prog := Tab.add_ok (T0_ok _) runs_ref02_In
        refine Runs.of_body Try.func140 (by decide) rfl (by simp [Try.f140]) ?_
        refine W.seqE hT mixed M_f140 (by kernel_rfl) ?_
        simp [Try.f140]
        refine W.cut (∀ i (h : i < l.length), inS l[i].h l[i].l l[i].h' l[i].l' x y = false) [] [] 18 ?_ ?_
        · refine W.seqE hT mixed M_f140 (by kernel_rfl) ?_
          simp [Try.f140]
          refine W.block (W.for (fun k => ∀ i (hi : i < k) (h : i < l.length), inS l[i].h l[i].l l[i].h' l[i].l' x y = false) (fun k => [(0, .rd 4 (sRows l)), (3, .ptr 0 0), (5, .int .i64 k)]) (fun _ => [.box 28 [.int .u64 x, .int .u64 y]]) 18 l.length (fun i hi => absurd hi (by omega)) ?_ ?_)
          · simp [sRows]
          · intro k hk hJ
            refine W.of_WE hT mixed M_f140 _ (by kernel_rfl) ?_
            by_cases hlt : k < l.length
            · have hw1 : IntKind.i64.wrap ((k : Int) + 1) = k + 1 := wr_i64 (by omega) (by omega)
              cases e : inS l[k].h l[k].l l[k].h' l[k].l' x y
              · have hJ' : ∀ i (hi : i < k + 1) (h : i < l.length), inS l[i].h l[i].l l[i].h' l[i].l' x y = false := by
                  intro i hi h
                  rcases Nat.lt_or_ge i k with g | g
                  · exact hJ i g h
                  · have : i = k := by omega
                    subst this; exact e
                simp [hlt, SP.row, SInS, e, hw1]
                exact hJ'
              · simp [hlt, SP.row, SInS, e]
                exact ⟨l[k], List.getElem_mem hlt, e⟩
            · have : k = l.length := by omega
              subst this
              simp
              exact fun i hi => hJ i hi hi
        · intro hn
          refine W.of_WE hT mixed M_f140 _ (by kernel_rfl) ?_
          simp [Try.f140]
          intro s hs
          obtain ⟨i, hi, rfl⟩ := List.mem_iff_getElem.1 hs
          exact hn i hi
      · cases hh
    · cases hh
  · cases hh
def SHold : List V → Option Res
  | [.int .i64 d, .bool a, .bool b] => some ⟨.bool (hold d a b), []⟩
  | _ => none
theorem runs_ref03_holds : ∀ args r, SHold args = some r → Runs Try.prog 139 args r := by
  intro args r hh
  unfold SHold at hh
  split at hh
  · rename_i d a b
    cases hh
    refine Runs.of_body Try.func139 (by decide) rfl (by simp [Try.f139]) ?_
    refine W.of_WE (T0_ok _) mixed M0 _ (by kernel_rfl) ?_
    by_cases d0 : d = 0
    · cases a <;> simp [Try.f139, hold, d0]
    · by_cases d1 : d = 1
      · cases a <;> simp [Try.f139, hold, d0, d1]
      · cases a <;> simp [Try.f139, hold, d0, d1]
  · cases hh

end Go.Proofs.Ythfbddnpakhjiaa.AL
namespace Go.Proofs.Ythfbddnpakhjiaa.AL
open Go
attribute [local simp] qf cv qbin ibin sbin qun retPost rvOk ctV ctPost marksOk retV resAll resOf V.lt ltL V.ren renL V.exp V.exp1 cleanL V.clean closedL V.closed V.cells V.one V.tree
  loadV cellsAt isNC nilQ isSlD isIfD slNew ownRows ownCells V.isOwn slStore srcO qlook mlook mget mstr zval qnone qmake mput lmap isAggD placesOf fillV putCells lstore bound seqParts V.sh shL Blk.sh newV V.ok peqs peq srcRows appOk mmV mmR hidE V.fz fzL Blk.fz fzOk and_assoc
attribute [-simp] Int.not_le Int.not_lt Nat.not_le Nat.not_lt
theorem insA_len : ∀ {l : List (Int × Int)} {a : Int × Int}, (insA l a).length ≤ l.length + 1
  | [], a => by simp [insA]
  | x :: l, a => by
    have := insA_len (l := l) (a := a)
    unfold insA
    split
    · simp; omega
    · split <;> simp
theorem insA_mem : ∀ {l : List (Int × Int)} {a p : Int × Int}, p ∈ insA l a ↔ p = a ∨ p ∈ l
  | [], a, p => by simp [insA]
  | x :: l, a, p => by
    have ih := insA_mem (l := l) (a := a) (p := p)
    unfold insA
    split
    · rw [List.mem_cons, ih, List.mem_cons]
      constructor
      · rintro (h | h | h)
        · exact .inr (.inl h)
        · exact .inl h
        · exact .inr (.inr h)
      · rintro (h | h | h)
        · exact .inr (.inl h)
        · exact .inl h
        · exact .inr (.inr h)
    · split
      · rename_i h1 h2
        subst h2
        simp
      · simp
def edgStep (f : Int) (out : List (Int × Int)) (s : SP) : List (Int × Int) :=
  if (nextA f s.h' s.l').2.2 = true then insA (insA out (s.h, s.l)) ((nextA f s.h' s.l').1, (nextA f s.h' s.l').2.1) else insA out (s.h, s.l)
def edgL (f : Int) (l : List SP) : List (Int × Int) := l.foldl (edgStep f) [(0, 0)]
theorem edgL_snoc {f : Int} {l : List SP} {k : Nat} (h : k < l.length) : edgL f (l.take (k + 1)) = edgStep f (edgL f (l.take k)) l[k] := by
  unfold edgL
  rw [take_snoc' l k h, List.foldl_append]; rfl
theorem edgStep_len {f : Int} {out : List (Int × Int)} {s : SP} : (edgStep f out s).length ≤ out.length + 2 := by
  unfold edgStep
  have h1 := insA_len (l := out) (a := (s.h, s.l))
  split
  · have h2 := insA_len (l := insA out (s.h, s.l)) (a := ((nextA f s.h' s.l').1, (nextA f s.h' s.l').2.1))
    omega
  · omega
theorem edgL_len {f : Int} {l : List SP} : ∀ k, k ≤ l.length → (edgL f (l.take k)).length ≤ 1 + 2 * k
  | 0, _ => by simp [edgL]
  | k + 1, h => by
    rw [edgL_snoc (by omega)]
    have := edgStep_len (f := f) (out := edgL f (l.take k)) (s := l[k]'(by omega))
    have := edgL_len (f := f) (l := l) k (by omega)
    omega
def SEdg : List V → Option Res
  | [.int .u8 f, .rd 4 rows] => match spsOf rows with
    | some l => if (∀ s ∈ l, inSP s) ∧ l.length ≤ 100000 then some ⟨.rd 2 (adRows (edgL f l)), []⟩ else none
    | none => none
  | _ => none
theorem ins_at {l : List (Int × Int)} {x y : Int} (h : l.length ≤ 1000000) : SIns [.rd 2 (adRows l), .agg [.int .u64 x, .int .u64 y]] = some ⟨.rd 2 (adRows (insA l (x, y))), []⟩ := by
  simp only [SIns, adRows_parse]
  rw [if_pos h]
def M_f138 : Md := fun i => some #[]
@[simp] theorem M_f138_eq {i : Nat} : M_f138 i = (some #[]) := rfl
theorem runs_ref03_edges : ∀ args r, SEdg args = some r → Runs Try.prog 138 args r := by
  intro args r hh
  unfold SEdg at hh
  split at hh
  · rename_i f rows
    split at hh
    · rename_i l hl
      split at hh
      · rename_i hin
        obtain ⟨hin, hlen⟩ := hin
        cases hh
        have h1 := parse_eq spOf_eq hl
        subst h1
        have hT : ((T0.add 154 SNext).add 153 SIns).ok Try.prog := Tab.add_ok (Tab.add_ok (T0_ok _) runs_ref02_Next) runs_ref03_insert
        refine Runs.of_body Try.func138 (by decide) rfl (by simp [Try.f138]) ?_
        refine W.seqE hT mixed M_f138 (by kernel_rfl) ?_
        simp [Try.f138]
        refine W.seqE hT mixed M_f138 (by kernel_rfl) ?_
        simp
        refine W.wk (Wk.freeze 16 (.sl 2 28 [[.int .u64 0, .int .u64 0]]) (by simp) (by simp)) ?_
        refine W.cut True [(5, .rd 2 (adRows (edgL f l)))] [] 39 ?_ ?_
        · refine W.seqE hT mixed M_f138 (by kernel_rfl) ?_
          simp
          refine W.block (W.for (fun _ => True) (fun k => [(0, .int .u8 f), (1, .rd 4 (sRows l)), (5, .rd 2 (adRows (edgL f (l.take k)))), (6, .int .i64 k)]) (fun _ => []) 39 l.length trivial ?_ ?_)
          · simp [sRows, edgL, adRows, adRow]
          · intro k hk _
            refine W.of_WE hT mixed M_f138 _ (by kernel_rfl) ?_
            by_cases hlt : k < l.length
            · have hw1 : IntKind.i64.wrap ((k : Int) + 1) = k + 1 := wr_i64 (by omega) (by omega)
              have hle := edgL_len (f := f) (l := l) k hk
              have hsn := edgL_snoc (f := f) hlt
              have hs := hin l[k] (List.getElem_mem hlt)
              obtain ⟨S, hS⟩ : ∃ S, S = l[k] := ⟨_, rfl⟩
              rw [← hS] at hsn hs
              have hsA : inA S.h' S.l' := ⟨hs.2.2.2.2.1, hs.2.2.2.2.2.1, hs.2.2.2.2.2.2.1, hs.2.2.2.2.2.2.2⟩
              have hnx : SNext [.int .u8 f, .agg [.int .u64 S.h', .int .u64 S.l']] = some ⟨.tup [.agg [.int .u64 (nextA f S.h' S.l').1, .int .u64 (nextA f S.h' S.l').2.1], .bool (nextA f S.h' S.l').2.2], []⟩ := by
                simp only [SNext]; rw [if_pos hsA]
              rw [hsn]
              generalize edgL f (l.take k) = O at *
              unfold edgStep
              have i1 := ins_at (l := O) (x := S.h) (y := S.l) (by omega)
              have hl1 := insA_len (l := O) (a := (S.h, S.l))
              generalize nextA f S.h' S.l' = n at *
              have i2 := ins_at (l := insA O (S.h, S.l)) (x := n.1) (y := n.2.1) (by omega)
              cases n1 : n.2.2
              · simp [hlt, ← hS, SP.row, i1, hnx, n1, hw1]
              · simp [hlt, ← hS, SP.row, i1, i2, hnx, n1, hw1]
            · have : k = l.length := by omega
              subst this
              simp
        · intro _
          refine W.of_WE hT mixed M_f138 _ (by kernel_rfl) ?_
          simp [Try.f138]
      · cases hh
    · cases hh
  · cases hh

end Go.Proofs.Ythfbddnpakhjiaa.AL
