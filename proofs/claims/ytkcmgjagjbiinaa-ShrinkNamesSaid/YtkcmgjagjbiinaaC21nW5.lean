import Derived.Test.YtkcmgjagjbiinaaC21nW4
/- What single functions compute: a part of the proof; no conditions. -/
set_option linter.unusedVariables false
set_option linter.unusedSimpArgs false
set_option maxRecDepth 100000
namespace Go.Proofs.Ytkcmgjagjbiinaa.AL
open Go
attribute [local simp] qf cv qbin ibin sbin qun retPost rvOk ctV ctPost marksOk retV resAll resOf V.lt ltL V.ren renL V.exp V.exp1 cleanL V.clean closedL V.closed V.cells V.one V.tree
  loadV cellsAt isNC nilQ isSlD isIfD slNew ownRows ownCells V.isOwn slStore srcO qlook mlook mget mstr zval qnone qmake mput lmap isAggD placesOf fillV putCells lstore bound seqParts V.sh shL Blk.sh newV V.ok peqs peq srcRows qbytes byteSl appOk mmV mmR hidE V.fz fzL Blk.fz fzOk and_assoc
attribute [-simp] Int.not_le Int.not_lt Nat.not_le Nat.not_lt
/-- Is an address greater than another one by at least 2? -/
def aftB (ah al bh bl : Int) : Bool := (nextA 6 bh bl).2.2 && decide (0 < cmpA ah al (nextA 6 bh bl).1 (nextA 6 bh bl).2.1)
def SAft : List V → Option Res
  | [.agg [.int .u64 ah, .int .u64 al], .agg [.int .u64 bh, .int .u64 bl]] => if inA bh bl then some ⟨.bool (aftB ah al bh bl), []⟩ else none
  | _ => none
theorem runs_after : ∀ args r, SAft args = some r → Runs Try.prog 86 args r := by
  intro args r hh
  unfold SAft at hh
  split at hh
  · rename_i ah al bh bl
    split at hh
    · rename_i hin
      cases hh
      have hT : ((T0.add 83 SNext).add 79 SCompare).ok Try.prog := Tab.add_ok (Tab.add_ok (T0_ok _) runs_span_Next) runs_number_Compare
      refine Runs.of_body Try.func86 (by decide) rfl (by simp [Try.f86]) ?_
      refine W.of_WE hT mixed M0 _ (by kernel_rfl) ?_
      cases e : (nextA 6 bh bl).2.2
      · simp [Try.f86, SNext, hin, e, aftB]
      · simp [Try.f86, SNext, hin, e, aftB, SCompare]
    · cases hh
  · cases hh
def SP0 : SP := ⟨0, 0, 0, 0⟩
def aftS (s t : SP) : Bool := aftB s.h s.l t.h' t.l'
def nrmL (l : List SP) : Bool := (List.range (l.length - 1)).all fun i => aftS (l.getD (i + 1) SP0) (l.getD i SP0)
theorem nrmL_iff {l : List SP} : nrmL l = true ↔ ∀ i (h : i + 1 < l.length), aftS l[i + 1] (l[i]'(by omega)) = true := by
  unfold nrmL
  rw [List.all_eq_true]
  constructor
  · intro h i hi
    have := h i (List.mem_range.2 (by omega))
    simpa [hi, show i < l.length by omega] using this
  · intro h i hi
    rw [List.mem_range] at hi
    simpa [show i + 1 < l.length by omega, show i < l.length by omega] using h i (by omega)
def SNrm : List V → Option Res
  | [.rd 4 rows] => match spsOf rows with
    | some l => if (∀ s ∈ l, inSP s) ∧ l.length ≤ 1000000 then some ⟨.bool (nrmL l), []⟩ else none
    | none => none
  | _ => none
def M_f66 : Md := fun i => if i = 4 then some #[0, 0, 3, 7, 15, 0, 0, 64, 224, 480, 992, 2047, 4095] else some #[]
@[simp] theorem M_f66_eq {i : Nat} : M_f66 i = (if i = 4 then some #[0, 0, 3, 7, 15, 0, 0, 64, 224, 480, 992, 2047, 4095] else some #[]) := rfl
theorem runs_normal : ∀ args r, SNrm args = some r → Runs Try.prog 66 args r := by
  intro args r hh
  unfold SNrm at hh
  split at hh
  · rename_i rows
    split at hh
    · rename_i l hl
      split at hh
      · rename_i hin
        obtain ⟨hin, hlen⟩ := hin
        cases hh
        have h1 := parse_eq spOf_eq hl
        subst h1
        have hT : (T0.add 86 SAft).ok Try.prog := Tab.add_ok (T0_ok _) runs_after
        refine Runs.of_body Try.func66 (by decide) rfl (by simp [Try.f66]) ?_
        refine W.seqE hT mixed M_f66 (by kernel_rfl) ?_
        simp [Try.f66]
        refine W.cut (nrmL l = true) [] [] 23 ?_ ?_
        · refine W.seqE hT mixed M_f66 (by kernel_rfl) ?_
          simp [Try.f66]
          refine W.block (W.for (fun k => ∀ i (hi : i < k) (h : i + 1 < l.length), aftS l[i + 1] (l[i]'(by omega)) = true) (fun k => [(0, .rd 4 (sRows l)), (3, .int .i64 ((k : Int) + 1))]) (fun k => []) 23 (l.length - 1) (fun i hi => absurd hi (by omega)) ?_ ?_)
          · simp [sRows]
          · intro k hk hJ
            refine W.of_WE hT mixed M_f66 _ (by kernel_rfl) ?_
            by_cases hlt : k + 1 < l.length
            · have hw1 : IntKind.i64.wrap ((k : Int) + 1 + 1) = (k : Int) + 1 + 1 := wr_i64 (by omega) (by omega)
              have hw2 : IntKind.i64.wrap (k : Int) = (k : Int) := wr_i64 (by omega) (by omega)
              have hlt' : (k : Int) + 1 < l.length := by omega
              have hlt2 : k < l.length := by omega
              have hp1 : (0 : Int) ≤ (k : Int) + 1 := by omega
              have hw3 : ((k : Int) + 1).toNat = k + 1 := by omega
              have hs := hin l[k] (List.getElem_mem (by omega))
              have hA : inA l[k].h' l[k].l' := ⟨hs.2.2.2.2.1, hs.2.2.2.2.2.1, hs.2.2.2.2.2.2.1, hs.2.2.2.2.2.2.2⟩
              cases e : aftS l[k + 1] (l[k]'(by omega))
              · have hf : nrmL l = false := by
                  rw [Bool.eq_false_iff]
                  intro hc
                  have := nrmL_iff.1 hc k hlt
                  rw [e] at this; cases this
                unfold aftS at e
                simp [hlt, hlt', hlt2, hp1, hw2, hw3, SP.row, SAft, hA, e, hf]
              · have hJ' : ∀ i (hi : i < k + 1) (h : i + 1 < l.length), aftS l[i + 1] (l[i]'(by omega)) = true := by
                  intro i hi h
                  rcases Nat.lt_or_ge i k with g | g
                  · exact hJ i g h
                  · have : i = k := by omega
                    subst this; exact e
                unfold aftS at e
                simp [hlt, hlt', hlt2, hp1, hw1, hw2, hw3, SP.row, SAft, hA, e]
                exact ⟨by omega, hJ'⟩
            · have hlt' : ¬ (k : Int) + 1 < l.length := by omega
              simp [hlt, hlt']
              rw [nrmL_iff]
              exact fun i hi => hJ i (by omega) hi
        · intro hn
          refine W.of_WE hT mixed M_f66 _ (by kernel_rfl) ?_
          simp [Try.f66, hn]
      · cases hh
    · cases hh
  · cases hh
def chkR (r : RS) : Int := if chkdR r ≠ 0 then chkdR r else if nrmL r.l4 = true ∧ nrmL r.l6 = true ∧ nrmL (r.la.map wideS) = true then 0 else 8
def SChkR : List V → Option Res
  | [.agg cs] => match rsOf cs with
    | some r => if inRS r ∧ lenRS 1000000 r then some ⟨.int .i64 (chkR r), []⟩ else none
    | none => none
  | _ => none
theorem nrm_at {l : List SP} (hin : ∀ s ∈ l, inSP s) (hlen : l.length ≤ 1000000) : SNrm [.rd 4 (sRows l)] = some ⟨.bool (nrmL l), []⟩ := by
  simp only [SNrm, sRows_parse]
  rw [if_pos ⟨hin, hlen⟩]
theorem chkd_at {r : RS} (hin : inRS r) (hlen : lenRS 1000000 r) : SChkd [.agg r.cells] = some ⟨.int .i64 (chkdR r), []⟩ := by
  simp only [SChkd, rsOf_cells]
  rw [if_pos ⟨hin, hlen⟩]
theorem runs_resource_Check : ∀ args r, SChkR args = some r → Runs Try.prog 40 args r := by
  intro args r hh
  unfold SChkR at hh
  split at hh
  · rename_i cs
    split at hh
    · rename_i r hr
      split at hh
      · rename_i hin
        obtain ⟨hin, hlen⟩ := hin
        cases hh
        have h1 := rsOf_eq hr
        subst h1
        have hs := sets_at hin hlen
        have hcd := chkd_at hin hlen
        have hT : (((T0.add 58 SSets).add 65 SChkd).add 66 SNrm).ok Try.prog := Tab.add_ok (Tab.add_ok (Tab.add_ok (T0_ok _) runs_resource_sets) runs_checked) runs_normal
        simp only [RS.cells] at hs hcd ⊢
        refine Runs.of_body Try.func40 (by decide) rfl (by simp [Try.f40]) ?_
        refine W.seqE hT mixed M0 (by kernel_rfl) ?_
        simp [Try.f40]
        refine W.cut (chkdR r = 0) [(1, .ptr 0 0)] [.box 26 [.rd 4 (sRows r.l4), .rd 4 (sRows r.l6), .rd 2 (aRows r.la)]] 20 ?_ ?_
        · refine W.of_WE hT mixed M0 _ (by kernel_rfl) ?_
          simp [Try.f40, hcd]
          intro h
          unfold chkR
          rw [if_pos h]
        · intro hz
          refine W.cut (nrmL r.l4 = true ∧ nrmL r.l6 = true ∧ nrmL (r.la.map wideS) = true) [] [] 20 ?_ ?_
          · refine W.seqE hT mixed M0 (by kernel_rfl) ?_
            simp [Try.f40, hs]
            have g0 := nrm_at hin.1 hlen.1
            have g1 := nrm_at hin.2.1 hlen.2.1
            have g2 := nrm_at (l := r.la.map wideS) (fun s hs => by
              obtain ⟨t, ht, rfl⟩ := List.mem_map.1 hs
              exact inSP_wide (hin.2.2 t ht)) (by simpa using hlen.2.2)
            refine W.block (W.for (fun k => (0 < k → nrmL r.l4 = true) ∧ (1 < k → nrmL r.l6 = true) ∧ (2 < k → nrmL (r.la.map wideS) = true))
              (fun k => [(12, .agg [.rd 4 (sRows r.l4), .rd 4 (sRows r.l6), .rd 4 (sRows (r.la.map wideS))]), (13, .int .i64 k)]) (fun k => []) 20 3 (by simp) ?_ ?_)
            · simp
            · intro k hk hJ
              refine W.of_WE hT mixed M0 _ (by kernel_rfl) ?_
              match k, hk, hJ with
              | 0, _, hJ =>
                cases e : nrmL r.l4
                · rw [e] at g0
                  simp [g0, e, chkR, hz]
                · rw [e] at g0
                  simp [g0, e]; rfl
              | 1, _, hJ =>
                have j0 := hJ.1 (by omega)
                cases e : nrmL r.l6
                · rw [e] at g1
                  simp [g1, e, chkR, hz]
                · rw [e] at g1
                  simp [g1, e, j0]; rfl
              | 2, _, hJ =>
                have j0 := hJ.1 (by omega)
                have j1 := hJ.2.1 (by omega)
                cases e : nrmL (r.la.map wideS)
                · rw [e] at g2
                  simp [g2, e, chkR, hz]
                · rw [e] at g2
                  simp [g2, e, j0, j1]; rfl
              | 3, _, hJ => simp [hJ.1, hJ.2.1, hJ.2.2]
          · rintro ⟨g0, g1, g2⟩
            refine W.of_WE hT mixed M0 _ (by kernel_rfl) ?_
            simp [Try.f40, chkR, hz, g0, g1, g2]
      · cases hh
    · cases hh
  · cases hh

end Go.Proofs.Ytkcmgjagjbiinaa.AL
namespace Go.Proofs.Ytkcmgjagjbiinaa.AL
open Go
attribute [local simp] qf cv qbin ibin sbin qun retPost rvOk ctV ctPost marksOk retV resAll resOf V.lt ltL V.ren renL V.exp V.exp1 cleanL V.clean closedL V.closed V.cells V.one V.tree
  loadV cellsAt isNC nilQ isSlD isIfD slNew ownRows ownCells V.isOwn slStore srcO qlook mlook mget mstr zval qnone qmake mput lmap isAggD placesOf fillV putCells lstore bound seqParts V.sh shL Blk.sh newV V.ok peqs peq srcRows qbytes byteSl appOk mmV mmR hidE V.fz fzL Blk.fz fzOk and_assoc
attribute [-simp] Int.not_le Int.not_lt Nat.not_le Nat.not_lt
/-- What is known amid a difference: where the rest begins, is there any, what has come out. -/
structure MSt where
  h : Int
  l : Int
  o : Bool
  out : List SP
def mstep (s : SP) (m : MSt) (x : SP) : MSt :=
  if cmpA x.h' x.l' m.h m.l < 0 ∨ 0 < cmpA x.h x.l s.h' s.l' ∨ m.o = false then m else
    ⟨(nextA 6 x.h' x.l').1, (nextA 6 x.h' x.l').2.1, (nextA 6 x.h' x.l').2.2 && decide (cmpA (nextA 6 x.h' x.l').1 (nextA 6 x.h' x.l').2.1 s.h' s.l' ≤ 0),
      if (prevA x.h x.l).2.2 = true ∧ cmpA m.h m.l (prevA x.h x.l).1 (prevA x.h x.l).2.1 ≤ 0 then m.out ++ [⟨m.h, m.l, (prevA x.h x.l).1, (prevA x.h x.l).2.1⟩] else m.out⟩
def mfold (s : SP) (b : List SP) (out : List SP) : MSt := b.foldl (mstep s) ⟨s.h, s.l, true, out⟩
def m1 (b : List SP) (out : List SP) (s : SP) : List SP := if (mfold s b out).o = true then (mfold s b out).out ++ [⟨(mfold s b out).h, (mfold s b out).l, s.h', s.l'⟩] else (mfold s b out).out
def minS (a b : List SP) : List SP := a.foldl (m1 b) []
theorem mstep_len (s : SP) (m : MSt) (x : SP) : (mstep s m x).out.length ≤ m.out.length + 1 := by
  unfold mstep
  split
  · omega
  · simp only
    split <;> simp
theorem mfold_snoc {s : SP} {b : List SP} {out : List SP} {j : Nat} (h : j < b.length) : mfold s (b.take (j + 1)) out = mstep s (mfold s (b.take j) out) b[j] := by
  unfold mfold
  rw [take_snoc' b j h, List.foldl_append]; rfl
theorem mfold_len {s : SP} {b : List SP} {out : List SP} : ∀ j, j ≤ b.length → (mfold s (b.take j) out).out.length ≤ out.length + j
  | 0, _ => by simp [mfold]
  | j + 1, h => by
    rw [mfold_snoc (by omega)]
    have := mstep_len s (mfold s (b.take j) out) (b[j]'(by omega))
    have := mfold_len (s := s) (b := b) (out := out) j (by omega)
    omega
theorem m1_len {s : SP} {b : List SP} {out : List SP} : (m1 b out s).length ≤ out.length + (b.length + 1) := by
  have := mfold_len (s := s) (b := b) (out := out) b.length (Nat.le_refl _)
  rw [List.take_length] at this
  unfold m1
  split <;> simp <;> omega
theorem minS_snoc {a b : List SP} {k : Nat} (h : k < a.length) : minS (a.take (k + 1)) b = m1 b (minS (a.take k) b) a[k] := by
  unfold minS
  rw [take_snoc' a k h, List.foldl_append]; rfl
theorem minS_len {a b : List SP} : ∀ k, k ≤ a.length → (minS (a.take k) b).length ≤ k * (b.length + 1)
  | 0, _ => by simp [minS]
  | k + 1, h => by
    rw [minS_snoc (by omega)]
    have := m1_len (s := a[k]'(by omega)) (b := b) (out := minS (a.take k) b)
    have := minS_len (a := a) (b := b) k (by omega)
    rw [Nat.add_mul]
    omega
theorem sRows_snoc (l : List SP) (s : SP) : sRows l ++ [s.row] = sRows (l ++ [s]) := by simp [sRows]
def SMin : List V → Option Res
  | [.rd 4 ra, .rd 4 rb] => match spsOf ra, spsOf rb with
    | some a, some b => if (∀ s ∈ a, inSP s) ∧ (∀ s ∈ b, inSP s) ∧ a.length ≤ 1000 ∧ b.length ≤ 1000 then some ⟨.own 0, [.sl 4 101 (sRows (minS a b))]⟩ else none
    | _, _ => none
  | _ => none
def M_f59 : Md := fun i => some #[]
@[simp] theorem M_f59_eq {i : Nat} : M_f59 i = (some #[]) := rfl
theorem runs_minus : ∀ args r, SMin args = some r → Runs Try.prog 59 args r := by
  intro args r hh
  unfold SMin at hh
  split at hh
  · rename_i ra rb
    split at hh
    · rename_i a b ha hb
      split at hh
      · rename_i hin
        obtain ⟨hina, hinb, hla, hlb⟩ := hin
        cases hh
        have h1 := parse_eq spOf_eq ha
        have h2 := parse_eq spOf_eq hb
        subst h1 h2
        have hT : (((T0.add 79 SCompare).add 82 SPrev).add 83 SNext).ok Try.prog := Tab.add_ok (Tab.add_ok (Tab.add_ok (T0_ok _) runs_number_Compare) runs_span_Prev) runs_span_Next
        refine Runs.of_body Try.func59 (by decide) rfl (by simp [Try.f59]) ?_
        refine W.seqE hT mixed M_f59 (by kernel_rfl) ?_
        simp [Try.f59]
        refine W.seqE hT mixed M_f59 (by kernel_rfl) ?_
        simp [Try.f59]
        refine W.wk (Wk.adopt 5 4 101 (by omega) (by simp)) ?_
        refine W.cut True [(5, .own 0)] [.sl 4 101 (sRows (minS a b))] 89 ?_ ?_
        · refine W.seqE hT mixed M_f59 (by kernel_rfl) ?_
          simp [Try.f59]
          refine W.block (W.for (fun _ => True) (fun k => [(1, .rd 4 (sRows b)), (5, .own 0), (14, .rd 4 (sRows a)), (15, .int .i64 a.length), (16, .int .i64 k)]) (fun k => [.sl 4 101 (sRows (minS (a.take k) b))]) 89 a.length trivial ?_ ?_)
          · simp [sRows, minS]
          · intro k hk _
            refine W.seqE hT mixed M_f59 (by kernel_rfl) ?_
            by_cases hlt : k < a.length
            · have hw1 : IntKind.i64.wrap ((k : Int) + 1) = k + 1 := wr_i64 (by omega) (by omega)
              have hmn := minS_snoc (b := b) hlt
              have hml := minS_len (a := a) (b := b) k hk
              have hb1 : k * (b.length + 1) ≤ 1000 * 1001 := Nat.mul_le_mul (by omega) (by omega)
              rw [hmn]
              generalize minS (a.take k) b = O at *
              obtain ⟨S, hS⟩ : ∃ S, S = a[k] := ⟨_, rfl⟩
              have hSin := hina a[k] (List.getElem_mem hlt)
              rw [← hS] at hSin ⊢
              simp [hlt]
              refine W.seqE hT mixed M_f59 (by kernel_rfl) ?_
              simp
              refine W.cut True [(1, .rd 4 (sRows b)), (5, .own 0), (14, .rd 4 (sRows a)), (15, .int .i64 a.length), (16, .int .i64 k)] [.sl 4 101 (sRows (m1 b O S))] 89 ?_ ?_
              · refine W.block ?_
                refine W.seqE hT mixed M_f59 (by kernel_rfl) ?_
                simp [hlt, SP.row, ← hS]
                refine W.seqE hT mixed M_f59 (by kernel_rfl) ?_
                simp
                refine W.cut True [(1, .rd 4 (sRows b)), (5, .own 0), (7, .ptr 1 0), (8, .ptr 2 0), (9, .bool (mfold S b O).o), (14, .rd 4 (sRows a)), (15, .int .i64 a.length), (16, .int .i64 k)]
                  [.sl 4 101 (sRows (mfold S b O).out), .box 101 S.row, .box 99 [.int .u64 (mfold S b O).h, .int .u64 (mfold S b O).l]] 89 ?_ ?_
                · refine W.seqE hT mixed M_f59 (by kernel_rfl) ?_
                  simp
                  refine W.block (W.for (fun _ => True) (fun j => [(1, .rd 4 (sRows b)), (5, .own 0), (7, .ptr 1 0), (8, .ptr 2 0), (9, .bool (mfold S (b.take j) O).o), (14, .rd 4 (sRows a)), (15, .int .i64 a.length), (16, .int .i64 k), (22, .rd 4 (sRows b)), (23, .int .i64 b.length), (24, .int .i64 j)])
                    (fun j => [.sl 4 101 (sRows (mfold S (b.take j) O).out), .box 101 S.row, .box 99 [.int .u64 (mfold S (b.take j) O).h, .int .u64 (mfold S (b.take j) O).l]]) 89 b.length trivial ?_ ?_)
                  · simp [mfold, SP.row]
                  · intro j hj _
                    refine W.of_WE hT mixed M_f59 _ (by kernel_rfl) ?_
                    by_cases hjl : j < b.length
                    · have hw2 : IntKind.i64.wrap ((j : Int) + 1) = j + 1 := wr_i64 (by omega) (by omega)
                      have hst := mfold_snoc (s := S) (out := O) hjl
                      have hMl := mfold_len (s := S) (b := b) (out := O) j hj
                      have hx := hinb b[j] (List.getElem_mem hjl)
                      obtain ⟨x, hxe⟩ : ∃ x, x = b[j] := ⟨_, rfl⟩
                      rw [← hxe] at hx hst
                      obtain ⟨x1, x2, x3, x4, x5, x6, x7, x8⟩ := hx
                      have hxa : inA x.h x.l := ⟨x1, x2, x3, x4⟩
                      have hxb : inA x.h' x.l' := ⟨x5, x6, x7, x8⟩
                      rw [hst]
                      generalize mfold S (b.take j) O = M at *
                      by_cases c1 : cmpA x.h' x.l' M.h M.l < 0
                      · have hm : mstep S M x = M := by unfold mstep; rw [if_pos (.inl c1)]
                        rw [hm]
                        simp [hjl, ← hxe, SP.row, SCompare, c1, hw2]
                      · by_cases c2 : 0 < cmpA x.h x.l S.h' S.l'
                        · have hm : mstep S M x = M := by unfold mstep; rw [if_pos (.inr (.inl c2))]
                          rw [hm]
                          simp [hjl, ← hxe, SP.row, SCompare, c1, c2, hw2]
                        · cases c3 : M.o
                          · have hm : mstep S M x = M := by unfold mstep; rw [if_pos (.inr (.inr c3))]
                            rw [hm]
                            simp [hjl, ← hxe, SP.row, SCompare, c1, c2, c3, hw2]
                          · have hm : ¬ (cmpA x.h' x.l' M.h M.l < 0 ∨ 0 < cmpA x.h x.l S.h' S.l' ∨ M.o = false) := by rw [c3]; simp [c1, c2]
                            have hn : SNext [.int .u8 6, .agg [.int .u64 x.h', .int .u64 x.l']] = some ⟨.tup [.agg [.int .u64 (nextA 6 x.h' x.l').1, .int .u64 (nextA 6 x.h' x.l').2.1], .bool (nextA 6 x.h' x.l').2.2], []⟩ := by
                              simp only [SNext]; rw [if_pos hxb]
                            have hp : SPrev [.agg [.int .u64 x.h, .int .u64 x.l]] = some ⟨.tup [.agg [.int .u64 (prevA x.h x.l).1, .int .u64 (prevA x.h x.l).2.1], .bool (prevA x.h x.l).2.2], []⟩ := by
                              simp only [SPrev]; rw [if_pos hxa]
                            unfold mstep
                            rw [if_neg hm]
                            have hsn := sRows_snoc M.out ⟨M.h, M.l, (prevA x.h x.l).1, (prevA x.h x.l).2.1⟩
                            simp only [SP.row] at hsn
                            have hlen2 : (sRows M.out).length ≤ 2000000 := by simp; omega
                            generalize nextA 6 x.h' x.l' = n at *
                            generalize prevA x.h x.l = p at *
                            by_cases p1 : p.2.2 = true ∧ cmpA M.h M.l p.1 p.2.1 ≤ 0
                            · rw [if_pos p1, ← hsn]
                              generalize sRows M.out = R at *
                              cases n1 : n.2.2
                              · simp [hjl, ← hxe, SP.row, SCompare, c1, c2, c3, hw2, hn, hp, p1.1, p1.2, n1]
                                omega
                              · simp [hjl, ← hxe, SP.row, SCompare, c1, c2, c3, hw2, hn, hp, p1.1, p1.2, n1]
                                omega
                            · rw [if_neg p1]
                              cases p2 : p.2.2
                              · cases n1 : n.2.2
                                · simp [hjl, ← hxe, SP.row, SCompare, c1, c2, c3, hw2, hn, hp, p2, n1]
                                · simp [hjl, ← hxe, SP.row, SCompare, c1, c2, c3, hw2, hn, hp, p2, n1]
                              · have p3 : ¬ cmpA M.h M.l p.1 p.2.1 ≤ 0 := fun h => p1 ⟨p2, h⟩
                                cases n1 : n.2.2
                                · simp [hjl, ← hxe, SP.row, SCompare, c1, c2, c3, hw2, hn, hp, p2, p3, n1]
                                · simp [hjl, ← hxe, SP.row, SCompare, c1, c2, c3, hw2, hn, hp, p2, p3, n1]
                    · have : j = b.length := by omega
                      subst this
                      simp [SP.row]
                · intro _
                  have hml2 := mfold_len (s := S) (b := b) (out := O) b.length (Nat.le_refl _)
                  rw [List.take_length] at hml2
                  refine W.of_WE hT mixed M_f59 _ (by kernel_rfl) ?_
                  cases e : (mfold S b O).o
                  · simp [e, m1, SP.row]
                  · have hsn := sRows_snoc (mfold S b O).out ⟨(mfold S b O).h, (mfold S b O).l, S.h', S.l'⟩
                    simp only [SP.row] at hsn
                    have hlen2 : (sRows (mfold S b O).out).length ≤ 2000000 := by simp; omega
                    generalize sRows (mfold S b O).out = R at *
                    simp [e, m1, SP.row]
                    exact ⟨by omega, by omega, hsn⟩
              · intro _
                refine W.of_WE hT mixed M_f59 _ (by kernel_rfl) ?_
                simp [hw1]
            · have : k = a.length := by omega
              subst this
              simp
              refine W.of_WE hT mixed M_f59 _ (by kernel_rfl) ?_
              simp
        · intro _
          refine W.of_WE hT mixed M_f59 _ (by kernel_rfl) ?_
          simp [Try.f59]
      · cases hh
    · cases hh
  · cases hh

end Go.Proofs.Ytkcmgjagjbiinaa.AL
namespace Go.Proofs.Ytkcmgjagjbiinaa.AL
open Go
attribute [local simp] qf cv qbin ibin sbin qun retPost rvOk ctV ctPost marksOk retV resAll resOf V.lt ltL V.ren renL V.exp V.exp1 cleanL V.clean closedL V.closed V.cells V.one V.tree
  loadV cellsAt isNC nilQ isSlD isIfD slNew ownRows ownCells V.isOwn slStore srcO qlook mlook mget mstr zval qnone qmake mput lmap isAggD placesOf fillV putCells lstore bound seqParts V.sh shL Blk.sh newV V.ok peqs peq srcRows qbytes byteSl appOk mmV mmR hidE V.fz fzL Blk.fz fzOk and_assoc
attribute [-simp] Int.not_le Int.not_lt Nat.not_le Nat.not_lt
def SOr2 : List V → Option Res
  | [.rd 1 [[.int .i64 a], [.int .i64 b]]] => some ⟨.int .i64 (if a = 0 then b else a), []⟩
  | _ => none
theorem runs_cmp_Or_Errno : ∀ args r, SOr2 args = some r → Runs Try.prog 57 args r := by
  intro args r hh
  unfold SOr2 at hh
  split at hh
  · rename_i a b
    cases hh
    refine Runs.of_body Try.func57 (by decide) rfl (by simp [Try.f57]) ?_
    refine W.seqE (T0_ok _) mixed M0 (by kernel_rfl) ?_
    simp [Try.f57]
    refine W.seqE (T0_ok _) mixed M0 (by kernel_rfl) ?_
    simp [Try.f57]
    refine W.cut (a = 0 ∧ b = 0) [(3, .int .i64 0)] [] 18 ?_ ?_
    · refine W.seqE (T0_ok _) mixed M0 (by kernel_rfl) ?_
      simp [Try.f57]
      refine W.block (W.for (fun k => (0 < k → a = 0) ∧ (1 < k → b = 0)) (fun k => [(3, .int .i64 0), (6, .rd 1 [[.int .i64 a], [.int .i64 b]]), (7, .int .i64 2), (8, .int .i64 k)]) (fun k => []) 18 2 (by simp) ?_ ?_)
      · simp
      · intro k hk hJ
        refine W.of_WE (T0_ok _) mixed M0 _ (by kernel_rfl) ?_
        match k, hk, hJ with
        | 0, _, hJ =>
          by_cases ha : a = 0
          · simp [ha]; rfl
          · simp [ha]
        | 1, _, hJ =>
          by_cases hb : b = 0
          · simp [hb, hJ.1 (by omega)]; rfl
          · simp [hb, hJ.1 (by omega)]
        | 2, _, hJ => simp [hJ.1, hJ.2]
    · intro ⟨ha, hb⟩
      refine W.of_WE (T0_ok _) mixed M0 _ (by kernel_rfl) ?_
      simp [Try.f57, ha, hb]
  · cases hh

end Go.Proofs.Ytkcmgjagjbiinaa.AL
namespace Go.Proofs.Ytkcmgjagjbiinaa.AL
open Go
attribute [local simp] qf cv qbin ibin sbin qun retPost rvOk ctV ctPost marksOk retV resAll resOf V.lt ltL V.ren renL V.exp V.exp1 cleanL V.clean closedL V.closed V.cells V.one V.tree
  loadV cellsAt isNC nilQ isSlD isIfD slNew ownRows ownCells V.isOwn slStore srcO qlook mlook mget mstr zval qnone qmake mput lmap isAggD placesOf fillV putCells lstore bound seqParts V.sh shL Blk.sh newV V.ok peqs peq srcRows qbytes byteSl appOk mmV mmR hidE V.fz fzL Blk.fz fzOk and_assoc
attribute [-simp] Int.not_le Int.not_lt Nat.not_le Nat.not_lt
theorem chkR_at {r : RS} (hin : inRS r) (hlen : lenRS 1000000 r) : SChkR [.agg r.cells] = some ⟨.int .i64 (chkR r), []⟩ := by
  simp only [SChkR, rsOf_cells]
  rw [if_pos ⟨hin, hlen⟩]
theorem chkR_len {r : RS} (h : chkR r = 0) : lenRS 200 r := by
  unfold chkR at h
  split at h
  · omega
  · rename_i h1
    have h2 : chkdR r = 0 := by omega
    unfold chkdR at h2
    split at h2
    · omega
    · rename_i h3
      exact ⟨by omega, by omega, by omega⟩
theorem min_at {a b : List SP} (ha : ∀ s ∈ a, inSP s) (hb : ∀ s ∈ b, inSP s) (la : a.length ≤ 1000) (lb : b.length ≤ 1000) : SMin [.rd 4 (sRows a), .rd 4 (sRows b)] = some ⟨.own 0, [.sl 4 101 (sRows (minS a b))]⟩ := by
  simp only [SMin, sRows_parse]
  rw [if_pos ⟨ha, hb, la, lb⟩]
/-- One error, or the other. -/
def orE2 (a b : Int) : Int := if a = 0 then b else a
def subL (a b : List SP) : Bool := (minS a b).isEmpty
def contR (a b : RS) : Bool := subL b.l4 a.l4 && subL b.l6 a.l6 && subL (b.la.map wideS) (a.la.map wideS)
def SCont : List V → Option Res
  | [.agg ca, .agg cb] => match rsOf ca, rsOf cb with
    | some a, some b => if inRS a ∧ inRS b ∧ lenRS 1000000 a ∧ lenRS 1000000 b then
        (if orE2 (chkR a) (chkR b) ≠ 0 then some ⟨.tup [.bool false, .int .i64 (orE2 (chkR a) (chkR b))], []⟩ else some ⟨.tup [.bool (contR a b), .int .i64 0], []⟩) else none
    | _, _ => none
  | _ => none
theorem subL_len {a b : List SP} : subL a b = true ↔ ¬ (0 < (minS a b).length) := by
  unfold subL
  rw [List.isEmpty_iff_length_eq_zero]
  omega
def M_f25 : Md := fun i => if i = 1 then some #[0, 1, 0, 7, 15, 31, 63] else if i = 4 then some #[0, 1, 0, 7, 0, 0, 63, 127] else if i = 8 then some #[0, 1, 3, 0, 8, 24, 63, 127, 255] else some #[]
@[simp] theorem M_f25_eq {i : Nat} : M_f25 i = (if i = 1 then some #[0, 1, 0, 7, 15, 31, 63] else if i = 4 then some #[0, 1, 0, 7, 0, 0, 63, 127] else if i = 8 then some #[0, 1, 3, 0, 8, 24, 63, 127, 255] else some #[]) := rfl
theorem runs_resource_Contains : ∀ args r, SCont args = some r → Runs Try.prog 25 args r := by
  intro args r hh
  unfold SCont at hh
  split at hh
  · rename_i ca cb
    split at hh
    · rename_i a b ha hb
      split at hh
      · rename_i hin
        obtain ⟨ina, inb, la, lb⟩ := hin
        have h1 := rsOf_eq ha
        have h2 := rsOf_eq hb
        subst h1 h2
        have ca := chkR_at ina la
        have cb := chkR_at inb lb
        have sa := sets_at ina la
        have sb := sets_at inb lb
        simp only [RS.cells] at ca cb sa sb
        have hT : ((((T0.add 40 SChkR).add 57 SOr2).add 58 SSets).add 59 SMin).ok Try.prog := Tab.add_ok (Tab.add_ok (Tab.add_ok (Tab.add_ok (T0_ok _) runs_resource_Check) runs_cmp_Or_Errno) runs_resource_sets) runs_minus
        split at hh
        · rename_i he
          cases hh
          have he' : ¬ (if chkR a = 0 then chkR b else chkR a) = 0 := he
          refine Runs.of_body Try.func25 (by decide) rfl (by simp [Try.f25]) ?_
          refine W.of_WE hT mixed M_f25 _ (by kernel_rfl) ?_
          simp [Try.f25, RS.cells, ca, cb, SOr2, he', orE2]
        · rename_i he
          cases hh
          have he' : orE2 (chkR a) (chkR b) = 0 := by omega
          have hca : chkR a = 0 := by unfold orE2 at he'; split at he' <;> omega
          have hcb : chkR b = 0 := by unfold orE2 at he'; rw [if_pos hca] at he'; exact he'
          obtain ⟨a4, a6, aa⟩ := chkR_len hca
          obtain ⟨b4, b6, ba⟩ := chkR_len hcb
          have wa : ∀ s ∈ a.la.map wideS, inSP s := fun s hs => by obtain ⟨t, ht, rfl⟩ := List.mem_map.1 hs; exact inSP_wide (ina.2.2 t ht)
          have wb : ∀ s ∈ b.la.map wideS, inSP s := fun s hs => by obtain ⟨t, ht, rfl⟩ := List.mem_map.1 hs; exact inSP_wide (inb.2.2 t ht)
          have m0 := min_at inb.1 ina.1 (by omega) (by omega)
          have m1 := min_at inb.2.1 ina.2.1 (by omega) (by omega)
          have m2 := min_at (a := b.la.map wideS) (b := a.la.map wideS) wb wa (by simp; omega) (by simp; omega)
          rw [hca] at ca
          rw [hcb] at cb
          refine Runs.of_body Try.func25 (by decide) rfl (by simp [Try.f25]) ?_
          refine W.seqE hT mixed M_f25 (by kernel_rfl) ?_
          simp [Try.f25, RS.cells]
          refine W.cut True [(2, .ptr 0 0), (3, .ptr 1 0)] [.box 26 a.cells, .box 26 b.cells] 36 ?_ ?_
          · refine W.of_WE hT mixed M_f25 _ (by kernel_rfl) ?_
            simp [Try.f25, RS.cells, ca, cb, SOr2]
          · intro _
            refine W.seqE hT mixed M_f25 (by kernel_rfl) ?_
            simp [Try.f25, RS.cells, sa, sb]
            refine W.cut (contR a b = true) [] [] 36 ?_ ?_
            · refine W.seqE hT mixed M_f25 (by kernel_rfl) ?_
              simp [Try.f25]
              refine W.block (W.for (fun k => (0 < k → subL b.l4 a.l4 = true) ∧ (1 < k → subL b.l6 a.l6 = true) ∧ (2 < k → subL (b.la.map wideS) (a.la.map wideS) = true))
                (fun k => [(7, .ptr 0 0), (8, .ptr 1 0), (23, .int .i64 k)]) (fun k => [.box 110 [.rd 4 (sRows a.l4), .rd 4 (sRows a.l6), .rd 4 (sRows (a.la.map wideS))], .box 110 [.rd 4 (sRows b.l4), .rd 4 (sRows b.l6), .rd 4 (sRows (b.la.map wideS))]]) 36 3 (by simp) ?_ ?_)
              · simp
              · intro k hk hJ
                refine W.of_WE hT mixed M_f25 _ (by kernel_rfl) ?_
                match k, hk, hJ with
                | 0, _, hJ =>
                  cases e : subL b.l4 a.l4
                  · have e' : 0 < (minS b.l4 a.l4).length := Decidable.byContradiction fun h => by rw [subL_len.2 h] at e; cases e
                    simp [m0, e', e, contR]
                  · have e' := subL_len.1 e
                    simp [m0, e', e]; rfl
                | 1, _, hJ =>
                  have j0 := hJ.1 (by omega)
                  cases e : subL b.l6 a.l6
                  · have e' : 0 < (minS b.l6 a.l6).length := Decidable.byContradiction fun h => by rw [subL_len.2 h] at e; cases e
                    simp [m1, e', e, contR]
                  · have e' := subL_len.1 e
                    simp [m1, e', e, j0]; rfl
                | 2, _, hJ =>
                  have j0 := hJ.1 (by omega)
                  have j1 := hJ.2.1 (by omega)
                  cases e : subL (b.la.map wideS) (a.la.map wideS)
                  · have e' : 0 < (minS (b.la.map wideS) (a.la.map wideS)).length := Decidable.byContradiction fun h => by rw [subL_len.2 h] at e; cases e
                    simp [m2, e', e, contR]
                  · have e' := subL_len.1 e
                    simp [m2, e', e, j0, j1]; rfl
                | 3, _, hJ => simp [contR, hJ.1, hJ.2.1, hJ.2.2]
            · intro hc
              refine W.of_WE hT mixed M_f25 _ (by kernel_rfl) ?_
              simp [Try.f25, hc]
      · cases hh
    · cases hh
  · cases hh

end Go.Proofs.Ytkcmgjagjbiinaa.AL
namespace Go.Proofs.Ytkcmgjagjbiinaa.AL
open Go
attribute [local simp] qf cv qbin ibin sbin qun retPost rvOk ctV ctPost marksOk retV resAll resOf V.lt ltL V.ren renL V.exp V.exp1 cleanL V.clean closedL V.closed V.cells V.one V.tree
  loadV cellsAt isNC nilQ isSlD isIfD slNew ownRows ownCells V.isOwn slStore srcO qlook mlook mget mstr zval qnone qmake mput lmap isAggD placesOf fillV putCells lstore bound seqParts V.sh shL Blk.sh newV V.ok peqs peq srcRows qbytes byteSl appOk mmV mmR hidE V.fz fzL Blk.fz fzOk and_assoc
attribute [-simp] Int.not_le Int.not_lt Nat.not_le Nat.not_lt
def SEqSp : List V → Option Res
  | [.rd 4 r1, .rd 4 r2] => match spsOf r1, spsOf r2 with
    | some a, some b => if a.length ≤ 1000000 ∧ b.length ≤ 1000000 then some ⟨.bool (decide (a = b)), []⟩ else none
    | _, _ => none
  | _ => none
def M_f61 : Md := fun i => if i = 6 then some #[0, 0, 3, 7, 0, 0, 48, 112, 255] else some #[]
@[simp] theorem M_f61_eq {i : Nat} : M_f61 i = (if i = 6 then some #[0, 0, 3, 7, 0, 0, 48, 112, 255] else some #[]) := rfl
theorem runs_Equal_Sp : ∀ args r, SEqSp args = some r → Runs Try.prog 61 args r := by
  intro args r hh
  unfold SEqSp at hh
  split at hh
  · rename_i r1 r2
    split at hh
    · rename_i a b ha hb
      split at hh
      · rename_i hin
        cases hh
        have h1 := parse_eq spOf_eq ha
        have h2 := parse_eq spOf_eq hb
        subst h1 h2
        refine Runs.of_body Try.func61 (by decide) rfl (by simp [Try.f61]) ?_
        refine W.seqE (T0_ok _) mixed M_f61 (by kernel_rfl) ?_
        simp [Try.f61]
        by_cases hlen : a.length = b.length
        · refine W.cut True [(0, .rd 4 (sRows a)), (1, .rd 4 (sRows b))] [] 26 ?_ ?_
          · refine W.of_WE (T0_ok _) mixed M_f61 _ (by kernel_rfl) ?_
            simp [Try.f61, hlen, sRows]
          · intro _
            refine W.cut (a = b) [] [] 26 ?_ ?_
            · refine W.seqE (T0_ok _) mixed M_f61 (by kernel_rfl) ?_
              simp [Try.f61]
              refine W.block (W.for (fun k => a.take k = b.take k) (fun k => [(0, .rd 4 (sRows a)), (1, .rd 4 (sRows b)), (12, .int .i64 a.length), (13, .int .i64 k)]) (fun k => []) 26 a.length (by simp) ?_ ?_)
              · simp
              · intro k hk hJ
                refine W.of_WE (T0_ok _) mixed M_f61 _ (by kernel_rfl) ?_
                by_cases hlt : k < a.length
                · have hlb : k < b.length := by omega
                  have hw1 : IntKind.i64.wrap ((k : Int) + 1) = k + 1 := wr_i64 (by omega) (by omega)
                  by_cases he : a[k] = b[k]
                  · have hJ' : a.take (k + 1) = b.take (k + 1) := by rw [take_snoc' a k hlt, take_snoc' b k hlb, hJ, he]
                    simp [hlt, hlb, SP.row, he, hw1]
                    exact hJ'
                  · have hne : ¬ a = b := fun e => he (by subst e; rfl)
                    have hf : ((decide (a[k].h = b[k].h) && decide (a[k].l = b[k].l)) && (decide (a[k].h' = b[k].h') && decide (a[k].l' = b[k].l'))) = false := by
                      rw [Bool.eq_false_iff]
                      intro h
                      apply he
                      cases ea : a[k]; cases eb : b[k]
                      simp [ea, eb] at h
                      simp [h]
                    simp [hlt, hlb, SP.row, hf, hne]
                    intro e1 e2 e3 e4; simp [e1, e2, e3, e4] at hf
                · have : k = a.length := by omega
                  subst this
                  simp
                  rw [List.take_length, hlen, List.take_length] at hJ
                  exact hJ
            · intro he
              refine W.of_WE (T0_ok _) mixed M_f61 _ (by kernel_rfl) ?_
              simp [Try.f61, he]
        · have hne : ¬ a = b := fun e => hlen (by rw [e])
          refine W.cut False [] [] 26 ?_ (fun h => h.elim)
          refine W.of_WE (T0_ok _) mixed M_f61 _ (by kernel_rfl) ?_
          simp [Try.f61, hne, show ¬ ((a.length : Int) = b.length) by omega]
      · cases hh
    · cases hh
  · cases hh

def SEqAs : List V → Option Res
  | [.rd 2 r1, .rd 2 r2] => match assOf r1, assOf r2 with
    | some a, some b => if a.length ≤ 1000000 ∧ b.length ≤ 1000000 then some ⟨.bool (decide (a = b)), []⟩ else none
    | _, _ => none
  | _ => none
def M_f62 : Md := fun i => if i = 6 then some #[0, 0, 3, 7, 0, 0, 48, 112, 255] else some #[]
@[simp] theorem M_f62_eq {i : Nat} : M_f62 i = (if i = 6 then some #[0, 0, 3, 7, 0, 0, 48, 112, 255] else some #[]) := rfl
theorem runs_Equal_As : ∀ args r, SEqAs args = some r → Runs Try.prog 62 args r := by
  intro args r hh
  unfold SEqAs at hh
  split at hh
  · rename_i r1 r2
    split at hh
    · rename_i a b ha hb
      split at hh
      · rename_i hin
        cases hh
        have h1 := parse_eq asOf_eq ha
        have h2 := parse_eq asOf_eq hb
        subst h1 h2
        refine Runs.of_body Try.func62 (by decide) rfl (by simp [Try.f62]) ?_
        refine W.seqE (T0_ok _) mixed M_f62 (by kernel_rfl) ?_
        simp [Try.f62]
        by_cases hlen : a.length = b.length
        · refine W.cut True [(0, .rd 2 (aRows a)), (1, .rd 2 (aRows b))] [] 26 ?_ ?_
          · refine W.of_WE (T0_ok _) mixed M_f62 _ (by kernel_rfl) ?_
            simp [Try.f62, hlen, aRows]
          · intro _
            refine W.cut (a = b) [] [] 26 ?_ ?_
            · refine W.seqE (T0_ok _) mixed M_f62 (by kernel_rfl) ?_
              simp [Try.f62]
              refine W.block (W.for (fun k => a.take k = b.take k) (fun k => [(0, .rd 2 (aRows a)), (1, .rd 2 (aRows b)), (12, .int .i64 a.length), (13, .int .i64 k)]) (fun k => []) 26 a.length (by simp) ?_ ?_)
              · simp
              · intro k hk hJ
                refine W.of_WE (T0_ok _) mixed M_f62 _ (by kernel_rfl) ?_
                by_cases hlt : k < a.length
                · have hlb : k < b.length := by omega
                  have hw1 : IntKind.i64.wrap ((k : Int) + 1) = k + 1 := wr_i64 (by omega) (by omega)
                  by_cases he : a[k] = b[k]
                  · have hJ' : a.take (k + 1) = b.take (k + 1) := by rw [take_snoc' a k hlt, take_snoc' b k hlb, hJ, he]
                    simp [hlt, hlb, AS.row, he, hw1]
                    exact hJ'
                  · have hne : ¬ a = b := fun e => he (by subst e; rfl)
                    have hf : (decide (a[k].a = b[k].a) && decide (a[k].b = b[k].b)) = false := by
                      rw [Bool.eq_false_iff]
                      intro h
                      apply he
                      cases ea : a[k]; cases eb : b[k]
                      simp [ea, eb] at h
                      simp [h]
                    simp [hlt, hlb, AS.row, hf, hne]
                    skip
                · have : k = a.length := by omega
                  subst this
                  simp
                  rw [List.take_length, hlen, List.take_length] at hJ
                  exact hJ
            · intro he
              refine W.of_WE (T0_ok _) mixed M_f62 _ (by kernel_rfl) ?_
              simp [Try.f62, he]
        · have hne : ¬ a = b := fun e => hlen (by rw [e])
          refine W.cut False [] [] 26 ?_ (fun h => h.elim)
          refine W.of_WE (T0_ok _) mixed M_f62 _ (by kernel_rfl) ?_
          simp [Try.f62, hne, show ¬ ((a.length : Int) = b.length) by omega]
      · cases hh
    · cases hh
  · cases hh

end Go.Proofs.Ytkcmgjagjbiinaa.AL
namespace Go.Proofs.Ytkcmgjagjbiinaa.AL
open Go
attribute [local simp] qf cv qbin ibin sbin qun retPost rvOk ctV ctPost marksOk retV resAll resOf V.lt ltL V.ren renL V.exp V.exp1 cleanL V.clean closedL V.closed V.cells V.one V.tree
  loadV cellsAt isNC nilQ isSlD isIfD slNew ownRows ownCells V.isOwn slStore srcO qlook mlook mget mstr zval qnone qmake mput lmap isAggD placesOf fillV putCells lstore bound seqParts V.sh shL Blk.sh newV V.ok peqs peq srcRows qbytes byteSl appOk mmV mmR hidE V.fz fzL Blk.fz fzOk and_assoc
attribute [-simp] Int.not_le Int.not_lt Nat.not_le Nat.not_lt
def prefR (r : RS) (f h l n : Int) : List SP := minS [⟨h, l, (lastA h l (widN f - n.toNat)).1, (lastA h l (widN f - n.toNat)).2⟩] (if f = 6 then r.l6 else r.l4)
def SHasP : List V → Option Res
  | [.agg cs, .agg [.int .u8 f, .int .u64 h, .int .u64 l, .int .i64 n]] => match rsOf cs with
    | some r => if inRS r ∧ lenRS 1000000 r ∧ inA h l then
        (if orE2 (chkR r) (chkP f h l n) ≠ 0 then some ⟨.tup [.bool false, .int .i64 (orE2 (chkR r) (chkP f h l n))], []⟩ else some ⟨.tup [.bool (prefR r f h l n).isEmpty, .int .i64 0], []⟩) else none
    | none => none
  | _ => none
theorem sRows_closed (ty : TypeId) (l : List SP) : (Blk.sl 4 ty (sRows l)).closed := by
  intro r hr c hc
  obtain ⟨s, hs, rfl⟩ := List.mem_map.1 hr
  simp only [SP.row, List.mem_cons, List.mem_nil_iff, or_false] at hc
  rcases hc with rfl | rfl | rfl | rfl <;> rfl
theorem dec_nil (l : List SP) : decide (l = []) = l.isEmpty := by cases l <;> simp
theorem chkP_zero {f h l n : Int} (h0 : chkP f h l n = 0) : cAddr f h l = true ∧ 0 ≤ n ∧ n ≤ widN f := by
  unfold chkP at h0
  split at h0
  · omega
  · split at h0
    · assumption
    · omega
/-- Is a number in a span of numbers? -/
def inN (x : Int) (s : AS) : Bool := decide (s.a ≤ x) && decide (x ≤ s.b)
def SAs1 : List V → Option Res
  | [.agg [.int .u32 a, .int .u32 b], .rptr [.int .u32 x] 0] => some ⟨.bool (inN x ⟨a, b⟩), []⟩
  | _ => none
def inNR (x : Int) (r : List V) : Bool := match asOf r with
  | some s => inN x s
  | none => false
theorem any_inNR {x : Int} {l : List AS} : (aRows l).any (inNR x) = l.any (inN x) := by
  unfold aRows
  rw [List.any_map]
  congr 1
def SHasA : List V → Option Res
  | [.agg cs, .int .u32 x] => match rsOf cs with
    | some r => if inRS r ∧ lenRS 1000000 r then
        (if chkR r ≠ 0 then some ⟨.tup [.bool false, .int .i64 (chkR r)], []⟩ else some ⟨.tup [.bool (r.la.any (inN x)), .int .i64 0], []⟩) else none
    | none => none
  | _ => none
def sameR (a b : RS) : Bool := decide (a.l4 = b.l4) && decide (a.l6 = b.l6) && decide (a.la = b.la)
def SSameR : List V → Option Res
  | [.agg ca, .agg cb] => match rsOf ca, rsOf cb with
    | some a, some b => if lenRS 1000000 a ∧ lenRS 1000000 b then some ⟨.bool (sameR a b), []⟩ else none
    | _, _ => none
  | _ => none
theorem eqSp_at {a b : List SP} (la : a.length ≤ 1000000) (lb : b.length ≤ 1000000) : SEqSp [.rd 4 (sRows a), .rd 4 (sRows b)] = some ⟨.bool (decide (a = b)), []⟩ := by
  simp only [SEqSp, sRows_parse]
  rw [if_pos ⟨la, lb⟩]
theorem eqAs_at {a b : List AS} (la : a.length ≤ 1000000) (lb : b.length ≤ 1000000) : SEqAs [.rd 2 (aRows a), .rd 2 (aRows b)] = some ⟨.bool (decide (a = b)), []⟩ := by
  simp only [SEqAs, aRows_parse]
  rw [if_pos ⟨la, lb⟩]
theorem runs_resource_Same : ∀ args r, SSameR args = some r → Runs Try.prog 35 args r := by
  intro args r hh
  unfold SSameR at hh
  split at hh
  · rename_i ca cb
    split at hh
    · rename_i a b ha hb
      split at hh
      · rename_i hin
        obtain ⟨la, lb⟩ := hin
        cases hh
        have h1 := rsOf_eq ha
        have h2 := rsOf_eq hb
        subst h1 h2
        have e4 := eqSp_at la.1 lb.1
        have e6 := eqSp_at la.2.1 lb.2.1
        have ea := eqAs_at la.2.2 lb.2.2
        have hT : ((T0.add 61 SEqSp).add 62 SEqAs).ok Try.prog := Tab.add_ok (Tab.add_ok (T0_ok _) runs_Equal_Sp) runs_Equal_As
        refine Runs.of_body Try.func35 (by decide) rfl (by simp [Try.f35]) ?_
        refine W.of_WE hT mixed M0 _ (by kernel_rfl) ?_
        unfold sameR
        generalize decide (a.l4 = b.l4) = d4 at *
        generalize decide (a.l6 = b.l6) = d6 at *
        generalize decide (a.la = b.la) = da at *
        cases d4
        · simp [Try.f35, RS.cells, e4, e6, ea]
        · cases d6
          · simp [Try.f35, RS.cells, e4, e6, ea]
          · simp [Try.f35, RS.cells, e4, e6, ea]
      · cases hh
    · cases hh
  · cases hh
def SEmpR : List V → Option Res
  | [.agg cs] => match rsOf cs with
    | some r => if lenRS 1000000 r then some ⟨.bool (decide (r.l4.length + r.l6.length + r.la.length = 0)), []⟩ else none
    | none => none
  | _ => none
end Go.Proofs.Ytkcmgjagjbiinaa.AL
namespace Go.Proofs.Ytkcmgjagjbiinaa.AL
open Go
attribute [local simp] qf cv qbin ibin sbin qun retPost rvOk ctV ctPost marksOk retV resAll resOf V.lt ltL V.ren renL V.exp V.exp1 cleanL V.clean closedL V.closed V.cells V.one V.tree
  loadV cellsAt isNC nilQ isSlD isIfD slNew ownRows ownCells V.isOwn slStore srcO qlook mlook mget mstr zval qnone qmake mput lmap isAggD placesOf fillV putCells lstore bound seqParts V.sh shL Blk.sh newV V.ok peqs peq srcRows qbytes byteSl appOk mmV mmR hidE V.fz fzL Blk.fz fzOk and_assoc
attribute [-simp] Int.not_le Int.not_lt Nat.not_le Nat.not_lt
theorem lists_at {r : RS} (hin : inRS r) (hlen : lenRS 1000000 r) : SLists [.agg r.cells] = some ⟨.tup [.rd 1 (lstRows r), .rd 1 famRows], []⟩ := by
  simp only [SLists, RS.cells, aRows_parse]
  rw [if_pos ⟨hin.2.2, hlen.2.2⟩]
  rfl
theorem any_iff {f : Int} {l : List SP} : goodL f l = true ↔ ∀ i (h : i < l.length), chkS f l[i].h l[i].l l[i].h' l[i].l' = 0 := by
  unfold goodL
  rw [Bool.not_eq_true', List.any_eq_false]
  constructor
  · intro h i hi
    have := h l[i] (List.getElem_mem hi)
    simpa [badS] using this
  · intro h s hs
    obtain ⟨i, hi, rfl⟩ := List.mem_iff_getElem.1 hs
    simp [badS, h i hi]
theorem chkdR_4 {r : RS} {k : Nat} (hk : k < 3) (h : 200 < (r.lst k).length) : chkdR r = 4 := by
  unfold chkdR
  rw [if_pos]
  match k, hk, h with
  | 0, _, h => exact .inl h
  | 1, _, h => exact .inr (.inl h)
  | 2, _, h => simp only [RS.lst, List.length_map] at h; exact .inr (.inr h)
theorem lens_iff {r : RS} : (¬ (200 < r.l4.length ∨ 200 < r.l6.length ∨ 200 < r.la.length)) ↔ ∀ k, k < 3 → (r.lst k).length ≤ 200 := by
  constructor
  · intro h k hk
    match k, hk with
    | 0, _ => simp only [RS.lst]; omega
    | 1, _ => simp only [RS.lst]; omega
    | 2, _ => simp only [RS.lst, List.length_map]; omega
  · intro hh
    obtain ⟨h0, h1, h2⟩ := forall3 hh
    simp only [RS.lst, List.length_map] at h0 h1 h2
    omega
theorem chkdR_8 {r : RS} (hl : ∀ k, k < 3 → (r.lst k).length ≤ 200) {k : Nat} (hk : k < 3) (h : goodL (famK k) (r.lst k) = false) : chkdR r = 8 := by
  unfold chkdR
  rw [if_neg (lens_iff.2 hl), if_neg]
  rintro ⟨g0, g1, g2⟩
  match k, hk, h with
  | 0, _, h => exact absurd (h.symm.trans g0) (by simp)
  | 1, _, h => exact absurd (h.symm.trans g1) (by simp)
  | 2, _, h => exact absurd (h.symm.trans g2) (by simp)
theorem chkdR_0 {r : RS} : chkdR r = 0 ↔ (∀ k, k < 3 → (r.lst k).length ≤ 200) ∧ ∀ k, k < 3 → goodL (famK k) (r.lst k) = true := by
  unfold chkdR
  rw [← lens_iff]
  have e : (goodL 4 r.l4 = true ∧ goodL 6 r.l6 = true ∧ goodL 4 (r.la.map wideS) = true) ↔ ∀ k, k < 3 → goodL (famK k) (r.lst k) = true := by
    constructor
    · rintro ⟨g0, g1, g2⟩ k hk
      match k, hk with
      | 0, _ => exact g0
      | 1, _ => exact g1
      | 2, _ => exact g2
    · exact fun h => forall3 h
  rw [← e]
  split
  · simp_all
  · split <;> simp_all
def M_f71 : Md := fun i => if i = 13 then some #[0, 0, 3, 7, 0, 0, 48, 112, 0, 496, 1008, 2047, 4095] else some #[]
@[simp] theorem M_f71_eq {i : Nat} : M_f71 i = (if i = 13 then some #[0, 0, 3, 7, 0, 0, 48, 112, 0, 496, 1008, 2047, 4095] else some #[]) := rfl
theorem runs_ref03_Valid : ∀ args r, SChkd args = some r → Runs Try.prog 71 args r := by
  intro args r hh
  unfold SChkd at hh
  split at hh
  · rename_i cs
    split at hh
    · rename_i r hr
      split at hh
      · rename_i hin
        obtain ⟨hin, hlen⟩ := hin
        cases hh
        have h1 := rsOf_eq hr
        subst h1
        have hs := lists_at hin hlen
        have hT : ((T0.add 38 SLists).add 87 SChkS).ok Try.prog := Tab.add_ok (Tab.add_ok (T0_ok _) runs_ref03_lists) runs_ref02_Check
        simp only [RS.cells] at hs ⊢
        refine Runs.of_body Try.func71 (by decide) rfl (by simp [Try.f71]) ?_
        refine W.seqE hT mixed M_f71 (by kernel_rfl) ?_
        simp [Try.f71]
        refine W.seqE hT mixed M_f71 (by kernel_rfl) ?_
        simp [hs]
        refine W.cut (∀ k, k < 3 → (r.lst k).length ≤ 200) [(3, .rd 1 (lstRows r)), (4, .rd 1 famRows)] [] 49 ?_ ?_
        · refine W.seqE hT mixed M_f71 (by kernel_rfl) ?_
          simp
          refine W.block (W.for (fun k => ∀ j, j < k → (r.lst j).length ≤ 200) (fun k => [(3, .rd 1 (lstRows r)), (4, .rd 1 famRows), (5, .int .i64 k)]) (fun k => []) 49 3 (fun j hj => absurd hj (by omega)) ?_ ?_)
          · simp
          · intro k hk hJ
            refine W.of_WE hT mixed M_f71 _ (by kernel_rfl) ?_
            by_cases hlt : k < 3
            · have hw1 : IntKind.i64.wrap ((k : Int) + 1) = k + 1 := wr_i64 (by omega) (by omega)
              have hlt' : (k : Int) < 3 := by omega
              by_cases c : (200 : Int) < (r.lst k).length
              · have hv : chkdR r = 4 := chkdR_4 hlt (by omega)
                simp [hlt, hlt', c, hv, lstRows_get r hlt]
              · have hJ' : ∀ j, j < k + 1 → (r.lst j).length ≤ 200 := by
                  intro j hj
                  rcases Nat.lt_or_ge j k with g | g
                  · exact hJ j g
                  · rw [show j = k by omega]; omega
                simp [hlt, hlt', c, hw1, lstRows_get r hlt]
                exact hJ'
            · have : k = 3 := by omega
              subst this
              simp
              exact hJ
        · intro hL
          refine W.cut (∀ k, k < 3 → goodL (famK k) (r.lst k) = true) [] [] 49 ?_ ?_
          · refine W.seqE hT mixed M_f71 (by kernel_rfl) ?_
            simp [Try.f71]
            refine W.block (W.for (fun k => ∀ j, j < k → goodL (famK j) (r.lst j) = true) (fun k => [(3, .rd 1 (lstRows r)), (4, .rd 1 famRows), (6, .int .i64 k)]) (fun k => []) 49 3 (fun j hj => absurd hj (by omega)) ?_ ?_)
            · simp
            · intro k hk hJ
              refine W.seqE hT mixed M_f71 (by kernel_rfl) ?_
              by_cases hlt : k < 3
              · have hw1 : IntKind.i64.wrap ((k : Int) + 1) = k + 1 := wr_i64 (by omega) (by omega)
                have hlt' : (k : Int) < 3 := by omega
                have hlk := hL k hlt
                simp [hlt, hlt']
                refine W.cut (goodL (famK k) (r.lst k) = true) [(3, .rd 1 (lstRows r)), (4, .rd 1 famRows), (6, .int .i64 k)] [] 49 ?_ ?_
                · refine W.block ?_
                  refine W.seqE hT mixed M_f71 (by kernel_rfl) ?_
                  simp
                  refine W.block (W.for (fun i => ∀ j (hj : j < i) (h : j < (r.lst k).length), chkS (famK k) (r.lst k)[j].h (r.lst k)[j].l (r.lst k)[j].h' (r.lst k)[j].l' = 0) (fun i => [(3, .rd 1 (lstRows r)), (4, .rd 1 famRows), (6, .int .i64 k), (7, .int .i64 i)]) (fun _ => []) 49 (r.lst k).length (fun j hj => absurd hj (by omega)) ?_ ?_)
                  · simp
                  · intro i hi hJi
                    refine W.of_WE hT mixed M_f71 _ (by kernel_rfl) ?_
                    by_cases hil : i < (r.lst k).length
                    · have hw2 : IntKind.i64.wrap ((i : Int) + 1) = i + 1 := wr_i64 (by omega) (by omega)
                      by_cases c : chkS (famK k) (r.lst k)[i].h (r.lst k)[i].l (r.lst k)[i].h' (r.lst k)[i].l' = 0
                      · have hJ' : ∀ j (hj : j < i + 1) (h : j < (r.lst k).length), chkS (famK k) (r.lst k)[j].h (r.lst k)[j].l (r.lst k)[j].h' (r.lst k)[j].l' = 0 := by
                          intro j hj h
                          rcases Nat.lt_or_ge j i with g | g
                          · exact hJi j g h
                          · have : j = i := by omega
                            subst this; exact c
                        simp [hlt, hlt', hil, lstRows_get r hlt, famRows_get hlt, SP.row, SChkS, c, hw2]
                        exact hJ'
                      · have hgf : goodL (famK k) (r.lst k) = false := by
                          rw [Bool.eq_false_iff]
                          intro h
                          exact c (any_iff.1 h i hil)
                        have hv : chkdR r = 8 := chkdR_8 hL hlt hgf
                        simp [hlt, hlt', hil, lstRows_get r hlt, famRows_get hlt, SP.row, SChkS, c, hv]
                    · have : i = (r.lst k).length := by omega
                      subst this
                      simp [hlt, hlt', lstRows_get r hlt]
                      exact any_iff.2 (fun i hi => hJi i hi hi)
                · intro hg
                  have hJ' : ∀ j, j < k + 1 → goodL (famK j) (r.lst j) = true := by
                    intro j hj
                    rcases Nat.lt_or_ge j k with g | g
                    · exact hJ j g
                    · rw [show j = k by omega]; exact hg
                  refine W.of_WE hT mixed M_f71 _ (by kernel_rfl) ?_
                  simp [hw1, hlt]
                  exact hJ'
              · have : k = 3 := by omega
                subst this
                simp
                exact hJ
          · intro hg
            have hv : chkdR r = 0 := chkdR_0.2 ⟨hL, hg⟩
            refine W.of_WE hT mixed M_f71 _ (by kernel_rfl) ?_
            simp [Try.f71, hv]
      · cases hh
    · cases hh
  · cases hh

end Go.Proofs.Ytkcmgjagjbiinaa.AL
