import Derived.Test.YtkcmgjagjbiinaaC21nW8
/- What single functions compute: a part of the proof; no conditions. -/
set_option linter.unusedVariables false
set_option linter.unusedSimpArgs false
set_option maxRecDepth 100000
namespace Go.Proofs.Ytkcmgjagjbiinaa.AL
open Go
attribute [local simp] qf cv qbin ibin sbin qun retPost rvOk ctV ctPost marksOk retV resAll resOf V.lt ltL V.ren renL V.exp V.exp1 cleanL V.clean closedL V.closed V.cells V.one V.tree
  loadV cellsAt isNC nilQ isSlD isIfD slNew ownRows ownCells V.isOwn slStore srcO qlook mlook mget mstr zval qnone qmake mput lmap isAggD placesOf fillV putCells lstore bound seqParts V.sh shL Blk.sh newV V.ok peqs peq srcRows qbytes byteSl appOk mmV mmR hidE V.fz fzL Blk.fz fzOk and_assoc
attribute [-simp] Int.not_le Int.not_lt Nat.not_le Nat.not_lt
@[simp] theorem Try.zv_int : zval Try.prog 3 = some (.int .i64 0) := by kernel_rfl
theorem emp_nil : ByteArray.empty.toList = [] := by rw [ByteArray.toList_eq]; rfl
theorem emp_ne {p : ByteArray} (h : p ≠ .empty) : ¬ p.toList = [] := fun e => h (bytes_ext (e.trans emp_nil.symm))
def opnR (l : List HD) (k j : Nat) (e : Int) : Res := ⟨.tup [.agg [.rd 5 (hRows l), .mrd (keysN (nmsL (l.take k))) (valsN k), .rd 1 (depRows l j)], .int .i64 e], []⟩
def SOpen : List V → Option Res
  | [.rd 5 rows] => match hdsOf rows with
    | some l => if inL l then some (opnR l (opnE l).1 (opnE l).2.1 (opnE l).2.2) else none
    | none => none
  | _ => none
/-- Where the search for a root stands. -/
structure DpI (l : List HD) (o : Option Nat) where
  h : HD
  d : Nat
  le : d ≤ l.length + 1
  eq : (dep l (l.length + 1 - d) h.p).map (· + d) = o
def M_f39 : Md := fun i => if i = 7 then some #[0, 1, 3, 7, 15, 31, 63, 127, 255, 511, 1023, 2047, 4095, 8191, 16383, 16383, 49151, 131071, 262143, 524287, 16383, 1064959, 4194303, 8388607, 16777215] else some #[]
@[simp] theorem M_f39_eq {i : Nat} : M_f39 i = (if i = 7 then some #[0, 1, 3, 7, 15, 31, 63, 127, 255, 511, 1023, 2047, 4095, 8191, 16383, 16383, 49151, 131071, 262143, 524287, 16383, 1064959, 4194303, 8388607, 16777215] else some #[]) := rfl
theorem runs_shrink_open : ∀ args r, SOpen args = some r → Runs Try.prog 39 args r := by
  intro args r hh
  unfold SOpen at hh
  split at hh
  · rename_i rows
    split at hh
    · rename_i l hl
      split at hh
      · rename_i hin
        obtain ⟨hin, hlen⟩ := hin
        cases hh
        have h1 := parse_eq hdOf_eq hl
        subst h1
        change Runs _ _ [.rd 5 (hRows l)] _
        have hT : ((T0.add 64 SName).add 40 SChkR).ok Try.prog := Tab.add_ok (Tab.add_ok (T0_ok _) runs_number_Name) runs_resource_Check
        refine Runs.of_body Try.func39 (by decide) rfl (by simp [Try.f39]) ?_
        refine W.seqE hT mixed M_f39 (by kernel_rfl) ?_
        simp [Try.f39]
        refine W.cutw True [(0, .rd 5 (hRows l)), (3, .int .i64 0), (2, .ptr 0 0), (4, .ptr 1 0)] [.box 80 [.nils, .nilm, .nils], .box 80 [.rd 5 (hRows l), .mp 2, .own 3], .map [] [], .sl 1 3 []] 98 ?_ ?_
        · refine W.of_WE hT mixed M_f39 _ (by kernel_rfl) ?_
          simp
          refine Wk.trans (Wk.adoptB 40 2 1 3 (bt := 80) (cells := [.rd 5 (hRows l), .mp 24, .nils]) (by omega) (by simp) rfl) ?_
          exact norm_wk [0, 40, 24, 56] (by simp [wkOkx, tmOk, dfOk, hpOk])
        intro _
        by_cases h30 : 30 < l.length
        · have hE : opnE l = (0, 0, 4) := by unfold opnE; rw [if_pos h30]
          rw [hE]
          refine W.wk (Wk.freeze 2 (.map [] []) (by simp) (by simp)) ?_
          refine W.wk (Wk.freeze 3 (.sl 1 3 []) (by simp) (by simp)) ?_
          refine W.of_WE hT mixed M_f39 _ (by kernel_rfl) ?_
          have h30' : (30 : Int) < l.length := by omega
          simp [h30', opnR, keysN, nmsL, valsN, depRows]
        have h30' : ¬ (30 : Int) < l.length := by omega
        refine W.seqE hT mixed M_f39 (by kernel_rfl) ?_
        simp [h30']
        refine W.cutw (lead (okN l) l.length = l.length) [(0, .rd 5 (hRows l)), (3, .int .i64 0), (2, .ptr 0 0), (4, .ptr 1 0)] [.box 80 [.nils, .nilm, .nils], .box 80 [.rd 5 (hRows l), .mrd (keysN (nmsL l)) (valsN l.length), .own 2], .sl 1 3 []] 98 ?_ ?_
        · refine W.seqE hT mixed M_f39 (by kernel_rfl) ?_
          simp
          refine W.block (W.for (fun k => ∀ i, i < k → okN l i = true) (fun k => [(0, .rd 5 (hRows l)), (3, .int .i64 0), (2, .ptr 0 0), (4, .ptr 1 0), (19, .rd 5 (hRows l)), (20, .int .i64 l.length), (21, .int .i64 k)]) (fun k => [.box 80 [.nils, .nilm, .nils], .box 80 [.rd 5 (hRows l), .mp 2, .own 3], .map (keysN (nmsL (l.take k))) (valsN k), .sl 1 3 []]) 98 l.length (fun i hi => absurd hi (by omega)) ?_ ?_)
          · simp [keysN, nmsL, valsN]
          · intro k hk hJ
            by_cases hlt : k < l.length
            · have hh := hin l[k] (List.getElem_mem hlt)
              obtain ⟨hs1, hs2, hi, hl0⟩ := hh
              have hN : SName [.str l[k].n] = some ⟨.bool (nameS l[k].n), []⟩ := by simp only [SName]; rw [if_pos (by omega)]
              have hC := chkR_at hi hl0
              simp only [RS.cells] at hC
              have hw1 : IntKind.i64.wrap ((k : Int) + 1) = k + 1 := wr_i64 (by omega) (by omega)
              by_cases hok : okN l k = true
              · have hJ' : ∀ i, i < k + 1 → okN l i = true := fun i hi => by
                  rcases Nat.lt_or_ge i k with g | g
                  · exact hJ i g
                  · have : i = k := by omega
                    subst this; exact hok
                have hnew := okN_new hlt hJ'
                have hput : mput (keysN (nmsL (l.take k))) (valsN k) l[k].n (.int .i64 k) = (keysN (nmsL (l.take (k + 1))), valsN (k + 1)) := by
                  have hlk : (nmsL (l.take k)).length = k := by simp; omega
                  have := mput_new hnew
                  rw [hlk] at this
                  rw [this, nms_take, nms_take, take_snoc' (nmsL l) k (by rw [nms_len]; exact hlt)]; simp [nmsL]
                unfold okN at hok
                rw [hd_get hlt] at hok
                simp only [Bool.and_eq_true, Bool.or_eq_true, decide_eq_true_eq] at hok
                obtain ⟨o1, o2, o3⟩ := hok
                rw [o1] at hN
                rw [o2] at hC
                refine W.of_WE hT mixed M_f39 _ (by kernel_rfl) ?_
                by_cases hk0 : k = 0
                · subst hk0
                  simp at hput hw1
                  simp [hlt, HD.row, hN, hC, hput, hw1]
                  exact hJ' 0 (by omega)
                · have o4 := o3.resolve_left hk0
                  have hk1 : 0 < k := by omega
                  have hkl : k - 1 < l.length := by omega
                  have hw2 : IntKind.i64.wrap ((k : Int) - 1) = ((k - 1 : Nat) : Int) := by rw [wr_i64 (by omega) (by omega)]; omega
                  rw [hd_get hkl] at o4
                  unfold bls at o4
                  simp [hlt, HD.row, hN, hC, hput, hw1, hk1, hw2, hkl, o4]
                  exact hJ'
              · have hld : lead (okN l) l.length = k := lead_at _ _ _ hk hJ (fun _ => by simpa using hok)
                have hE : opnE l = (k, 0, 8) := by unfold opnE; rw [if_neg h30, hld, if_pos hlt]
                rw [hE]
                refine W.wk (Wk.freeze 2 (.map (keysN (nmsL (l.take k))) (valsN k)) (by simp) (by simp)) ?_
                refine W.wk (Wk.freeze 3 (.sl 1 3 []) (by simp) (by simp)) ?_
                refine W.of_WE hT mixed M_f39 _ (by kernel_rfl) ?_
                unfold okN at hok
                rw [hd_get hlt] at hok
                cases o1 : nameS l[k].n
                · rw [o1] at hN
                  simp [hlt, HD.row, hN, opnR, depRows]
                · rw [o1] at hN
                  by_cases o2 : chkR l[k].r = 0
                  · rw [o2] at hC
                    have hk0 : ¬ k = 0 := fun h => hok (by subst h; simp [o1, o2])
                    have hk1 : 0 < k := by omega
                    have hkl : k - 1 < l.length := by omega
                    have hw2 : IntKind.i64.wrap ((k : Int) - 1) = ((k - 1 : Nat) : Int) := by rw [wr_i64 (by omega) (by omega)]; omega
                    rw [hd_get hkl] at hok
                    have o4 : Op.bytesLess l[k - 1].n.toList l[k].n.toList = false := by
                      rw [Bool.eq_false_iff]; intro h
                      exact hok (by simp [o1, o2, bls, h])
                    simp [hlt, HD.row, hN, hC, hk1, hw2, hkl, o4, opnR, depRows]
                  · simp [hlt, HD.row, hN, hC, o2, opnR, depRows]
            · have : k = l.length := by omega
              subst this
              have hld : lead (okN l) l.length = l.length := lead_at _ _ _ (Nat.le_refl _) hJ (fun h => absurd h (by omega))
              refine W.of_WE hT mixed M_f39 _ (by kernel_rfl) ?_
              simp [hld]
              refine Wk.trans (Wk.freeze 2 (.map (keysN (nmsL l)) (valsN l.length)) (by simp) (by simp)) ?_
              exact norm_wk [0, 1, 3] (by simp [wkOkx, tmOk, dfOk, hpOk])
        intro hld
        refine W.cutw (lead (okD l) l.length = l.length) [(0, .rd 5 (hRows l)), (2, .ptr 0 0), (4, .ptr 1 0)] [.box 80 [.nils, .nilm, .nils], .box 80 [.rd 5 (hRows l), .mrd (keysN (nmsL l)) (valsN l.length), .rd 1 (depRows l l.length)]] 98 ?_ ?_
        · refine W.seqE hT mixed M_f39 (by kernel_rfl) ?_
          simp
          refine W.block (W.for (fun j => ∀ i, i < j → okD l i = true) (fun j => [(0, .rd 5 (hRows l)), (2, .ptr 0 0), (4, .ptr 1 0), (58, .rd 5 (hRows l)), (59, .int .i64 l.length), (60, .int .i64 j)]) (fun j => [.box 80 [.nils, .nilm, .nils], .box 80 [.rd 5 (hRows l), .mrd (keysN (nmsL l)) (valsN l.length), .own 2], .sl 1 3 (depRows l j)]) 98 l.length (fun i hi => absurd hi (by omega)) ?_ ?_)
          · simp [depRows]
          · intro j hj hJ
            by_cases hlt : j < l.length
            · have hw1 : IntKind.i64.wrap ((j : Int) + 1) = j + 1 := wr_i64 (by omega) (by omega)
              by_cases hok : okD l j = true
              · obtain ⟨D, hD⟩ : ∃ D, dep l (l.length + 1) l[j].p = some D := by
                  unfold okD at hok; rw [hd_get hlt] at hok; exact Option.isSome_iff_exists.1 hok
                have hDN : depN l j = D := by unfold depN; rw [hd_get hlt, hD]; rfl
                have hJ' : ∀ i, i < j + 1 → okD l i = true := fun i hi => by
                  rcases Nat.lt_or_ge i j with g | g
                  · exact hJ i g
                  · have : i = j := by omega
                    subst this; exact hok
                refine W.seqE hT mixed M_f39 (by kernel_rfl) ?_
                simp [hlt]
                refine W.seqE hT mixed M_f39 (by kernel_rfl) ?_
                simp
                refine W.cut True [(0, .rd 5 (hRows l)), (2, .ptr 0 0), (4, .ptr 1 0), (58, .rd 5 (hRows l)), (59, .int .i64 l.length), (60, .int .i64 j)] [.box 80 [.nils, .nilm, .nils], .box 80 [.rd 5 (hRows l), .mrd (keysN (nmsL l)) (valsN l.length), .own 2], .sl 1 3 (depRows l (j + 1))] 98 ?_ ?_
                · refine W.block ?_
                  refine W.seqE hT mixed M_f39 (by kernel_rfl) ?_
                  simp [hlt, HD.row]
                  refine W.seqE hT mixed M_f39 (by kernel_rfl) ?_
                  simp
                  refine W.cut True [(0, .rd 5 (hRows l)), (2, .ptr 0 0), (4, .ptr 1 0), (58, .rd 5 (hRows l)), (59, .int .i64 l.length), (60, .int .i64 j), (9, .int .i64 (D : Int))] [.box 80 [.nils, .nilm, .nils], .box 80 [.rd 5 (hRows l), .mrd (keysN (nmsL l)) (valsN l.length), .own 2], .sl 1 3 (depRows l j)] 98 ?_ ?_
                  · refine W.block (W.fam (ι := DpI l (some D)) (fun i => [(0, .rd 5 (hRows l)), (2, .ptr 0 0), (4, .ptr 1 0), (58, .rd 5 (hRows l)), (59, .int .i64 l.length), (60, .int .i64 j), (8, .ptr 3 0), (9, .int .i64 (i.d : Int))]) (fun i => [.box 80 [.nils, .nilm, .nils], .box 80 [.rd 5 (hRows l), .mrd (keysN (nmsL l)) (valsN l.length), .own 2], .sl 1 3 (depRows l j), .box 52 i.h.row]) 98 (fun i => l.length + 1 - i.d) ⟨l[j], 0, by omega, by rw [Nat.sub_zero, hD]; rfl⟩ ?_ ?_)
                    · simp [HD.row]
                    · rintro ⟨h, d, hd, he⟩
                      have hm := mget_at l h.p
                      refine W.of_WE hT mixed M_f39 _ (by kernel_rfl) ?_
                      by_cases hp : h.p = .empty
                      · rw [hp, dep_emp] at he
                        simp at he
                        simp [HD.row, hp, he, emp_nil]
                      · cases hi : plc (nmsL l) h.p with
                        | none => rw [dep_none hp hi] at he; cases he
                        | some i =>
                          have hil := plc_lt hi
                          rw [hi] at hm
                          have hd2 : d < l.length + 1 := by
                            rcases Nat.lt_or_ge d (l.length + 1) with g | g
                            · exact g
                            · rw [show l.length + 1 - d = 0 by omega, dep_zero hp] at he; cases he
                          have hd3 : ¬ l.length < d := by omega
                          have hw2 : IntKind.i64.wrap ((d : Int) + 1) = d + 1 := wr_i64 (by omega) (by omega)
                          rw [show l.length + 1 - d = (l.length + 1 - (d + 1)) + 1 by omega, dep_step hp hi, hd_get hil] at he
                          simp only [Option.map_some] at hm
                          have hpl := emp_ne hp
                          simp [-zval, HD.row, hpl, hm, hil, hd3, hw2]
                          refine ⟨⟨l[i], d + 1, by omega, ?_⟩, by simp; omega, by simp [HD.row]⟩
                          rw [← he, Option.map_map]
                          congr 1
                          funext x
                          simp; omega
                  intro _
                  refine W.of_WE hT mixed M_f39 _ (by kernel_rfl) ?_
                  have hsn := depRows_snoc l j
                  have hdl := depRows_len l j
                  rw [hDN] at hsn
                  simp only [depRow] at hsn
                  generalize depRows l j = R at *
                  simp [hsn]
                  omega
                intro _
                refine W.of_WE hT mixed M_f39 _ (by kernel_rfl) ?_
                simp [hw1]
                exact hJ'
              · have hnone : dep l (l.length + 1) l[j].p = none := by
                  unfold okD at hok; rw [hd_get hlt] at hok; simpa using hok
                have hld2 : lead (okD l) l.length = j := lead_at _ _ _ hj hJ (fun _ => by simpa using hok)
                have hE : opnE l = (l.length, j, 8) := by unfold opnE; rw [if_neg h30, hld, if_neg (by omega), hld2, if_pos hlt]
                rw [hE]
                refine W.wk (Wk.freeze 2 (.sl 1 3 (depRows l j)) (by simp) (by simp)) ?_
                refine W.seqE hT mixed M_f39 (by kernel_rfl) ?_
                simp [hlt]
                refine W.seqE hT mixed M_f39 (by kernel_rfl) ?_
                simp
                refine W.cut False [] [] 98 ?_ (fun h => h.elim)
                refine W.block ?_
                refine W.seqE hT mixed M_f39 (by kernel_rfl) ?_
                simp [hlt, HD.row]
                refine W.seqE hT mixed M_f39 (by kernel_rfl) ?_
                simp
                refine W.cut False [] [] 98 ?_ (fun h => h.elim)
                refine W.block (W.fam (ι := DpI l none) (fun i => [(0, .rd 5 (hRows l)), (2, .ptr 0 0), (4, .ptr 1 0), (8, .ptr 2 0), (9, .int .i64 (i.d : Int))]) (fun i => [.box 80 [.nils, .nilm, .nils], .box 80 [.rd 5 (hRows l), .mrd (keysN (nmsL l)) (valsN l.length), .rd 1 (depRows l j)], .box 52 i.h.row]) 98 (fun i => l.length + 1 - i.d) ⟨l[j], 0, by omega, by rw [Nat.sub_zero, hnone]; rfl⟩ ?_ ?_)
                · simp [HD.row]
                · rintro ⟨h, d, hd, he⟩
                  have hm := mget_at l h.p
                  refine W.of_WE hT mixed M_f39 _ (by kernel_rfl) ?_
                  have hp : h.p ≠ .empty := fun hp => by rw [hp, dep_emp] at he; cases he
                  cases hi : plc (nmsL l) h.p with
                  | none =>
                    rw [hi] at hm
                    simp only [Option.map_none] at hm
                    have hpl := emp_ne hp
                    simp [-zval, HD.row, hpl, hm, opnR]
                  | some i =>
                    have hil := plc_lt hi
                    rw [hi] at hm
                    simp only [Option.map_some] at hm
                    by_cases hd2 : l.length < d
                    · have hpl := emp_ne hp
                      simp [-zval, HD.row, hpl, hm, hil, hd2, opnR]
                    · have hw2 : IntKind.i64.wrap ((d : Int) + 1) = d + 1 := wr_i64 (by omega) (by omega)
                      rw [show l.length + 1 - d = (l.length + 1 - (d + 1)) + 1 by omega, dep_step hp hi, hd_get hil] at he
                      have hpl := emp_ne hp
                      simp [-zval, HD.row, hpl, hm, hil, hd2, hw2]
                      refine ⟨⟨l[i], d + 1, by omega, ?_⟩, by simp; omega, by simp [HD.row]⟩
                      rw [← he, Option.map_map]
                      congr 1
                      funext x
                      simp; omega
            · have : j = l.length := by omega
              subst this
              have hld2 : lead (okD l) l.length = l.length := lead_at _ _ _ (Nat.le_refl _) hJ (fun h => absurd h (by omega))
              refine W.of_WE hT mixed M_f39 _ (by kernel_rfl) ?_
              simp [hld2]
              refine Wk.trans (Wk.freeze 2 (.sl 1 3 (depRows l l.length)) (by simp) (by simp)) ?_
              exact norm_wk [0, 1] (by simp [wkOkx, tmOk, dfOk, hpOk])
        intro hld2
        have hE : opnE l = (l.length, l.length, 0) := by unfold opnE; rw [if_neg h30, hld, if_neg (by omega), hld2, if_neg (by omega)]
        rw [hE]
        refine W.of_WE hT mixed M_f39 _ (by kernel_rfl) ?_
        simp [opnR]
      · cases hh
    · cases hh
  · cases hh

end Go.Proofs.Ytkcmgjagjbiinaa.AL
namespace Go.Proofs.Ytkcmgjagjbiinaa.AL
open Go
attribute [local simp] qf cv qbin ibin sbin qun retPost rvOk ctV ctPost marksOk retV resAll resOf V.lt ltL V.ren renL V.exp V.exp1 cleanL V.clean closedL V.closed V.cells V.one V.tree
  loadV cellsAt isNC nilQ isSlD isIfD slNew ownRows ownCells V.isOwn slStore srcO qlook mlook mget mstr zval qnone qmake mput lmap isAggD placesOf fillV putCells lstore bound seqParts V.sh shL Blk.sh newV V.ok peqs peq srcRows qbytes byteSl appOk mmV mmR hidE V.fz fzL Blk.fz fzOk and_assoc
attribute [-simp] Int.not_le Int.not_lt Nat.not_le Nat.not_lt
/-- A tree that was opened: its list, its map's names, its depths. -/
structure TR where
  l : List HD
  m : List ByteArray
  d : List (List V)
def keysOf : List V → Option (List ByteArray)
  | [] => some []
  | .str s :: ks => (keysOf ks).map (s :: ·)
  | _ => none
theorem keysOf_keys : ∀ m, keysOf (keysN m) = some m
  | [] => rfl
  | s :: m => by have := keysOf_keys m; simp only [keysN] at this; simp [keysOf, keysN, this]
theorem keysOf_eq : ∀ (ks : List V) (m : List ByteArray), keysOf ks = some m → ks = keysN m
  | [], m, h => by simp [keysOf] at h; subst h; rfl
  | k :: ks, m, h => by
    cases k with
    | str s =>
      simp only [keysOf] at h
      cases hk : keysOf ks with
      | none => rw [hk] at h; cases h
      | some m' =>
        rw [hk] at h
        simp only [Option.map_some, Option.some.injEq] at h
        subst h
        rw [keysOf_eq ks m' hk]; rfl
    | _ => simp [keysOf] at h
def valsOk : Nat → List V → Bool
  | _, [] => true
  | k, .int .i64 i :: vs => decide (i = (k : Int)) && valsOk (k + 1) vs
  | _, _ => false
theorem valsOk_from : ∀ (n k : Nat), valsOk k ((List.range' k n).map fun i : Nat => V.int .i64 (i : Int)) = true
  | 0, _ => rfl
  | n + 1, k => by simp [List.range'_succ, valsOk, valsOk_from n (k + 1)]
theorem valsOk_eq : ∀ (vs : List V) (k : Nat), valsOk k vs = true → vs = (List.range' k vs.length).map fun i : Nat => V.int .i64 (i : Int)
  | [], _, _ => rfl
  | v :: vs, k, h => by
    cases v with
    | int ki i =>
      cases ki with
      | i64 =>
        simp only [valsOk, Bool.and_eq_true, decide_eq_true_eq] at h
        rw [h.1, List.length_cons, List.range'_succ, List.map_cons, ← valsOk_eq vs (k + 1) h.2]
      | _ => simp [valsOk] at h
    | _ => simp [valsOk] at h
theorem valsOk_vals (n : Nat) : valsOk 0 (valsN n) = true := by unfold valsN; rw [List.range_eq_range']; exact valsOk_from n 0
theorem valsOk_N {vs : List V} (h : valsOk 0 vs = true) : vs = valsN vs.length := by unfold valsN; rw [List.range_eq_range']; exact valsOk_eq vs 0 h
def TR.cells (t : TR) : List V := [.rd 5 (hRows t.l), .mrd (keysN t.m) (valsN t.m.length), .rd 1 t.d]
def trOf : List V → Option TR
  | [.rd 5 rows, .mrd ks vs, .rd 1 d] => match hdsOf rows, keysOf ks with
    | some l, some m => if valsOk 0 vs = true ∧ vs.length = m.length then some ⟨l, m, d⟩ else none
    | _, _ => none
  | _ => none
theorem trOf_cells (t : TR) : trOf t.cells = some t := by
  simp only [trOf, TR.cells, hRows_parse, keysOf_keys, valsOk_vals, valsN_len]
  rw [if_pos ⟨trivial, trivial⟩]
theorem trOf_eq {cs : List V} {t : TR} (h : trOf cs = some t) : cs = t.cells := by
  unfold trOf at h
  split at h
  · split at h
    · split at h
      · rename_i h1 h2 h3
        cases h
        have e1 := parse_eq hdOf_eq h1
        have e2 := keysOf_eq _ _ h2
        have e3 := valsOk_N h3.1
        rw [h3.2] at e3
        subst e1 e2
        rw [e3]; simp [TR.cells, hRows]
      · cases h
    · cases h
  · cases h
def SChkT : List V → Option Res
  | [.rd 5 rows] => match hdsOf rows with
    | some l => if inL l then some ⟨.int .i64 (chkT l), []⟩ else none
    | none => none
  | _ => none
theorem open_at {l : List HD} (h : inL l) : SOpen [.rd 5 (hRows l)] = some (opnR l (opnE l).1 (opnE l).2.1 (opnE l).2.2) := by
  simp only [SOpen, hRows_parse]; rw [if_pos h]
theorem runs_shrink_Check : ∀ args r, SChkT args = some r → Runs Try.prog 31 args r := by
  intro args r hh
  unfold SChkT at hh
  split at hh
  · rename_i rows
    split at hh
    · rename_i l hl
      split at hh
      · rename_i hin
        cases hh
        have h1 := parse_eq hdOf_eq hl
        subst h1
        change Runs _ _ [.rd 5 (hRows l)] _
        have ho := open_at hin
        have hT : (T0.add 39 SOpen).ok Try.prog := Tab.add_ok (T0_ok _) runs_shrink_open
        refine Runs.of_body Try.func31 (by decide) rfl (by simp [Try.f31]) ?_
        refine W.of_WE hT mixed M0 _ (by kernel_rfl) ?_
        simp [Try.f31, ho, opnR, chkT]
      · cases hh
    · cases hh
  · cases hh
/-- Whom a map of a tree names. -/
def parT (t : TR) (h : HD) : Option Nat := plc t.m h.p
def SPar : List V → Option Res
  | [.agg ct, .agg ch] => match trOf ct, hdOf ch with
    | some t, some h => if t.m.length = t.l.length ∧ t.l.length ≤ 1000 then (match parT t h with
      | none => some ⟨.tup [.agg [.str .empty, .str .empty, .nils, .nils, .nils], .bool false], []⟩
      | some i => some ⟨.tup [.agg (t.l.getD i HD0).row, .bool true], []⟩) else none
    | _, _ => none
  | _ => none
theorem runs_shrink_parent : ∀ args r, SPar args = some r → Runs Try.prog 49 args r := by
  intro args r hh
  unfold SPar at hh
  split at hh
  · rename_i ct ch
    split at hh
    · rename_i t h ht hd
      split at hh
      · rename_i hlen
        have h1 := trOf_eq ht
        have h2 := hdOf_eq _ _ hd
        subst h1 h2
        have hm := mget_plc t.m h.p
        refine Runs.of_body Try.func49 (by decide) rfl (by simp [Try.f49]) ?_
        refine W.of_WE (T0_ok _) mixed M0 _ (by kernel_rfl) ?_
        unfold parT at hh
        cases hp : plc t.m h.p with
        | none =>
          rw [hp] at hh hm
          cases hh
          simp only [Option.map_none] at hm
          simp [-zval, Try.f49, TR.cells, HD.row, hm]
        | some i =>
          rw [hp] at hh hm
          cases hh
          obtain ⟨hi, _⟩ := plc_some hp
          have hil : i < t.l.length := by omega
          simp only [Option.map_some] at hm
          simp [-zval, Try.f49, TR.cells, HD.row, hm, hil, hd_get hil]
      · cases hh
    · cases hh
  · cases hh
/-- Has this one more than that one? -/
def excH (p h : HD) : Bool := !decide (orE2 (chkR p.r) (chkR h.r) = 0) || !contR p.r h.r
def excT (t : TR) (h : HD) : Bool := match parT t h with
  | none => false
  | some i => excH (t.l.getD i HD0) h
def inT (t : TR) : Prop := t.m.length = t.l.length ∧ inL t.l
instance (t : TR) : Decidable (inT t) := by unfold inT; infer_instance
def SExc : List V → Option Res
  | [.agg ct, .agg ch] => match trOf ct, hdOf ch with
    | some t, some h => if inT t ∧ inHD h then some ⟨.bool (excT t h), []⟩ else none
    | _, _ => none
  | _ => none
theorem cont_at {a b : RS} (ia : inRS a) (ib : inRS b) (la : lenRS 1000000 a) (lb : lenRS 1000000 b) :
    SCont [.agg a.cells, .agg b.cells] = some ⟨.tup [.bool (if orE2 (chkR a) (chkR b) = 0 then contR a b else false), .int .i64 (orE2 (chkR a) (chkR b))], []⟩ := by
  simp only [SCont, rsOf_cells]
  rw [if_pos ⟨ia, ib, la, lb⟩]
  by_cases h : orE2 (chkR a) (chkR b) = 0
  · rw [if_neg (by omega), if_pos h, h]
  · rw [if_pos h, if_neg h]
theorem runs_shrink_excess : ∀ args r, SExc args = some r → Runs Try.prog 43 args r := by
  intro args r hh
  unfold SExc at hh
  split at hh
  · rename_i ct ch
    split at hh
    · rename_i t h ht hd
      split at hh
      · rename_i hin
        obtain ⟨⟨hm, hl⟩, hh'⟩ := hin
        have h1 := trOf_eq ht
        have h2 := hdOf_eq _ _ hd
        subst h1 h2
        cases hh
        have hP : SPar [.agg t.cells, .agg h.row] = (match parT t h with
            | none => some ⟨.tup [.agg [.str .empty, .str .empty, .nils, .nils, .nils], .bool false], []⟩
            | some i => some ⟨.tup [.agg (t.l.getD i HD0).row, .bool true], []⟩) := by
          simp only [SPar, trOf_cells, hdOf_row]; rw [if_pos ⟨hm, hl.2⟩]
        have hT : ((T0.add 49 SPar).add 25 SCont).ok Try.prog := Tab.add_ok (Tab.add_ok (T0_ok _) runs_shrink_parent) runs_resource_Contains
        refine Runs.of_body Try.func43 (by decide) rfl (by simp [Try.f43]) ?_
        refine W.of_WE hT mixed M0 _ (by kernel_rfl) ?_
        unfold excT
        cases hp : parT t h with
        | none =>
          rw [hp] at hP
          simp only [TR.cells, HD.row] at hP
          simp [-zval, Try.f43, TR.cells, HD.row, hP]
        | some i =>
          rw [hp] at hP
          obtain ⟨hi, _⟩ := plc_some hp
          have hil : i < t.l.length := by omega
          obtain ⟨_, _, ip, lp⟩ := hl.1 _ (List.getElem_mem hil)
          obtain ⟨_, _, ih, lh⟩ := hh'
          simp only [hd_get hil] at hP ⊢
          have hC := cont_at ip ih lp lh
          simp only [TR.cells, HD.row] at hP
          simp only [RS.cells] at hC
          unfold excH
          by_cases hz : orE2 (chkR t.l[i].r) (chkR h.r) = 0
          · rw [hz] at hC
            simp [-zval, Try.f43, TR.cells, HD.row, hP, hC, hz]
          · simp [-zval, Try.f43, TR.cells, HD.row, hP, hC, hz]
      · cases hh
    · cases hh
  · cases hh
def SDown : List V → Option Res
  | [.agg ct, .bool up] => match trOf ct with
    | some t => some ⟨.fn 75 [] [.rptr t.cells 0, .rptr [.bool up] 0], []⟩
    | none => none
  | _ => none
theorem runs_shrink_down : ∀ args r, SDown args = some r → Runs Try.prog 48 args r := by
  intro args r hh
  unfold SDown at hh
  split at hh
  · rename_i ct up
    split at hh
    · rename_i t ht
      cases hh
      have h1 := trOf_eq ht
      subst h1
      refine Runs.of_body Try.func48 (by decide) rfl (by simp [Try.f48]) ?_
      refine W.seqE (T0_ok _) mixed M0 (by kernel_rfl) ?_
      simp [Try.f48, TR.cells]
      refine W.wk (Wk.freeze 0 (.box 80 t.cells) (by simp [TR.cells]) (by simp [TR.cells])) ?_
      refine W.wk (Wk.freeze 8 (.box 4 [.bool up]) (by simp) (by simp)) ?_
      refine W.of_WE (T0_ok _) mixed M0 _ (by kernel_rfl) ?_
      simp [Try.f48, TR.cells]
    · cases hh
  · cases hh

end Go.Proofs.Ytkcmgjagjbiinaa.AL
namespace Go.Proofs.Ytkcmgjagjbiinaa.AL
open Go
attribute [local simp] qf cv qbin ibin sbin qun retPost rvOk ctV ctPost marksOk retV resAll resOf V.lt ltL V.ren renL V.exp V.exp1 cleanL V.clean closedL V.closed V.cells V.one V.tree
  loadV cellsAt isNC nilQ isSlD isIfD slNew ownRows ownCells V.isOwn slStore srcO qlook mlook mget mstr zval qnone qmake mput lmap isAggD placesOf fillV putCells lstore bound seqParts V.sh shL Blk.sh newV V.ok peqs peq srcRows qbytes byteSl appOk mmV mmR hidE V.fz fzL Blk.fz fzOk and_assoc
attribute [-simp] Int.not_le Int.not_lt Nat.not_le Nat.not_lt
/-- slices.Clone of rows of 5 cells. -/
theorem runs_Clone_hd {rows : List (List V)} (hlen : rows.length ≤ 1000000) : Runs Try.prog 67 [.rd 5 rows] ⟨.own 0, [.sl 5 52 rows]⟩ := by
  refine Runs.of_body Try.func67 (by decide) rfl (by simp [Try.f67]) ?_
  refine W.seqE (T0_ok _) mixed M0 (by kernel_rfl) ?_
  simp [Try.f67]
  refine W.cut True [(0, .rd 5 rows)] [] 8 ?_ ?_
  · refine W.seqE (T0_ok _) mixed M0 (by kernel_rfl) ?_
    by_cases h : rows = []
    · subst h
      simp [Try.f67]
      refine W.cond_any (by simp) ?_ ?_
      · refine W.seqE (T0_ok _) mixed M0 (by kernel_rfl) ?_
        simp
        refine W.wk (Wk.adopt 2 5 52 (by omega) (by simp)) ?_
        refine W.of_WE (T0_ok _) mixed M0 _ (by kernel_rfl) ?_
        simp [Try.f67]
      · refine W.of_WE (T0_ok _) mixed M0 _ (by kernel_rfl) ?_
        simp
    · simp [Try.f67, h]
      refine W.of_WE (T0_ok _) mixed M0 _ (by kernel_rfl) ?_
      simp
  · intro _
    refine W.of_WE (T0_ok _) mixed M0 _ (by kernel_rfl) ?_
    simp [Try.f67]
    omega
open Classical in
/-- Clone, at these lists. -/
noncomputable def SCloH (ls : List (List (List V))) : List V → Option Res
  | [.rd 5 rows] => if rows ∈ ls then some ⟨.own 0, [.sl 5 52 rows]⟩ else none
  | _ => none
theorem SCloH_ok {ls : List (List (List V))} (h : ∀ rows ∈ ls, Runs Try.prog 67 [.rd 5 rows] ⟨.own 0, [.sl 5 52 rows]⟩) {args : List V} {r : Res} (hh : SCloH ls args = some r) : Runs Try.prog 67 args r := by
  unfold SCloH at hh
  split at hh
  · split at hh
    · rename_i hm; cases hh; exact h _ hm
    · cases hh
  · cases hh
theorem SCloH_at {ls : List (List (List V))} {rows : List (List V)} (h : rows ∈ ls) : SCloH ls [.rd 5 rows] = some ⟨.own 0, [.sl 5 52 rows]⟩ := by
  simp only [SCloH]
  rw [if_pos h]

/-- slices.Clone of rows of 4 cells. -/
theorem runs_Clone_sp {rows : List (List V)} (hlen : rows.length ≤ 1000000) : Runs Try.prog 68 [.rd 4 rows] ⟨.own 0, [.sl 4 101 rows]⟩ := by
  refine Runs.of_body Try.func68 (by decide) rfl (by simp [Try.f68]) ?_
  refine W.seqE (T0_ok _) mixed M0 (by kernel_rfl) ?_
  simp [Try.f68]
  refine W.cut True [(0, .rd 4 rows)] [] 8 ?_ ?_
  · refine W.seqE (T0_ok _) mixed M0 (by kernel_rfl) ?_
    by_cases h : rows = []
    · subst h
      simp [Try.f68]
      refine W.cond_any (by simp) ?_ ?_
      · refine W.seqE (T0_ok _) mixed M0 (by kernel_rfl) ?_
        simp
        refine W.wk (Wk.adopt 2 4 101 (by omega) (by simp)) ?_
        refine W.of_WE (T0_ok _) mixed M0 _ (by kernel_rfl) ?_
        simp [Try.f68]
      · refine W.of_WE (T0_ok _) mixed M0 _ (by kernel_rfl) ?_
        simp
    · simp [Try.f68, h]
      refine W.of_WE (T0_ok _) mixed M0 _ (by kernel_rfl) ?_
      simp
  · intro _
    refine W.of_WE (T0_ok _) mixed M0 _ (by kernel_rfl) ?_
    simp [Try.f68]
    omega
open Classical in
/-- Clone, at these lists. -/
noncomputable def SCloP (ls : List (List (List V))) : List V → Option Res
  | [.rd 4 rows] => if rows ∈ ls then some ⟨.own 0, [.sl 4 101 rows]⟩ else none
  | _ => none
theorem SCloP_ok {ls : List (List (List V))} (h : ∀ rows ∈ ls, Runs Try.prog 68 [.rd 4 rows] ⟨.own 0, [.sl 4 101 rows]⟩) {args : List V} {r : Res} (hh : SCloP ls args = some r) : Runs Try.prog 68 args r := by
  unfold SCloP at hh
  split at hh
  · split at hh
    · rename_i hm; cases hh; exact h _ hm
    · cases hh
  · cases hh
theorem SCloP_at {ls : List (List (List V))} {rows : List (List V)} (h : rows ∈ ls) : SCloP ls [.rd 4 rows] = some ⟨.own 0, [.sl 4 101 rows]⟩ := by
  simp only [SCloP]
  rw [if_pos h]

/-- slices.Clone of rows of 2 cells. -/
theorem runs_Clone_as {rows : List (List V)} (hlen : rows.length ≤ 1000000) : Runs Try.prog 69 [.rd 2 rows] ⟨.own 0, [.sl 2 68 rows]⟩ := by
  refine Runs.of_body Try.func69 (by decide) rfl (by simp [Try.f69]) ?_
  refine W.seqE (T0_ok _) mixed M0 (by kernel_rfl) ?_
  simp [Try.f69]
  refine W.cut True [(0, .rd 2 rows)] [] 8 ?_ ?_
  · refine W.seqE (T0_ok _) mixed M0 (by kernel_rfl) ?_
    by_cases h : rows = []
    · subst h
      simp [Try.f69]
      refine W.cond_any (by simp) ?_ ?_
      · refine W.seqE (T0_ok _) mixed M0 (by kernel_rfl) ?_
        simp
        refine W.wk (Wk.adopt 2 2 68 (by omega) (by simp)) ?_
        refine W.of_WE (T0_ok _) mixed M0 _ (by kernel_rfl) ?_
        simp [Try.f69]
      · refine W.of_WE (T0_ok _) mixed M0 _ (by kernel_rfl) ?_
        simp
    · simp [Try.f69, h]
      refine W.of_WE (T0_ok _) mixed M0 _ (by kernel_rfl) ?_
      simp
  · intro _
    refine W.of_WE (T0_ok _) mixed M0 _ (by kernel_rfl) ?_
    simp [Try.f69]
    omega
open Classical in
/-- Clone, at these lists. -/
noncomputable def SCloQ (ls : List (List (List V))) : List V → Option Res
  | [.rd 2 rows] => if rows ∈ ls then some ⟨.own 0, [.sl 2 68 rows]⟩ else none
  | _ => none
theorem SCloQ_ok {ls : List (List (List V))} (h : ∀ rows ∈ ls, Runs Try.prog 69 [.rd 2 rows] ⟨.own 0, [.sl 2 68 rows]⟩) {args : List V} {r : Res} (hh : SCloQ ls args = some r) : Runs Try.prog 69 args r := by
  unfold SCloQ at hh
  split at hh
  · split at hh
    · rename_i hm; cases hh; exact h _ hm
    · cases hh
  · cases hh
theorem SCloQ_at {ls : List (List (List V))} {rows : List (List V)} (h : rows ∈ ls) : SCloQ ls [.rd 2 rows] = some ⟨.own 0, [.sl 2 68 rows]⟩ := by
  simp only [SCloQ]
  rw [if_pos h]

end Go.Proofs.Ytkcmgjagjbiinaa.AL
namespace Go.Proofs.Ytkcmgjagjbiinaa.AL
open Go
attribute [local simp] qf cv qbin ibin sbin qun retPost rvOk ctV ctPost marksOk retV resAll resOf V.lt ltL V.ren renL V.exp V.exp1 cleanL V.clean closedL V.closed V.cells V.one V.tree
  loadV cellsAt isNC nilQ isSlD isIfD slNew ownRows ownCells V.isOwn slStore srcO qlook mlook mget mstr zval qnone qmake mput lmap isAggD placesOf fillV putCells lstore bound seqParts V.sh shL Blk.sh newV V.ok peqs peq srcRows qbytes byteSl appOk mmV mmR hidE V.fz fzL Blk.fz fzOk and_assoc
attribute [-simp] Int.not_le Int.not_lt Nat.not_le Nat.not_lt
def nmRow (s : ByteArray) : List V := [.str s]
def nmRows (l : List ByteArray) : List (List V) := l.map nmRow
@[simp] theorem nmRows_len (l : List ByteArray) : (nmRows l).length = l.length := by simp [nmRows]
def trL (l : List HD) : TR := ⟨l, nmsL l, depRows l l.length⟩
theorem opnR_ok (l : List HD) : opnR l l.length l.length 0 = ⟨.tup [.agg (trL l).cells, .int .i64 0], []⟩ := by
  simp [opnR, trL, TR.cells]
theorem chkT_ok {l : List HD} (h : chkT l = 0) : opnE l = (l.length, l.length, 0) := by
  unfold chkT opnE at h
  unfold opnE
  split at h
  · cases h
  · rename_i h1
    rw [if_neg h1]
    split at h
    · cases h
    · rename_i h2
      rw [if_neg h2]
      split at h
      · cases h
      · rename_i h3
        rw [if_neg h3]
theorem open_ok {l : List HD} (h : inL l) (hc : chkT l = 0) : SOpen [.rd 5 (hRows l)] = some ⟨.tup [.agg (trL l).cells, .int .i64 0], []⟩ := by
  rw [open_at h, chkT_ok hc, ← opnR_ok]
theorem inT_L {l : List HD} (h : inL l) : inT (trL l) := ⟨by simp [trL], h⟩
/-- Those who have too much. -/
def excL (l : List HD) : List HD := l.filter (excT (trL l))
def SExcs : List V → Option Res
  | [.rd 5 rows] => match hdsOf rows with
    | some l => if inL l then (if chkT l ≠ 0 then some ⟨.tup [.nils, .int .i64 (chkT l)], []⟩ else some ⟨.tup [.rd 1 (nmRows (nmsL (excL l))), .int .i64 0], []⟩) else none
    | none => none
  | _ => none
theorem exc_at {t : TR} {h : HD} (ht : inT t) (hh : inHD h) : SExc [.agg t.cells, .agg h.row] = some ⟨.bool (excT t h), []⟩ := by
  simp only [SExc, trOf_cells, hdOf_row]; rw [if_pos ⟨ht, hh⟩]
theorem runs_shrink_Excess : ∀ args r, SExcs args = some r → Runs Try.prog 27 args r := by
  intro args r hh
  unfold SExcs at hh
  split at hh
  · rename_i rows
    split at hh
    · rename_i l hl
      split at hh
      · rename_i hin
        have h1 := parse_eq hdOf_eq hl
        subst h1
        change Runs _ _ [.rd 5 (hRows l)] _
        have hT : ((T0.add 39 SOpen).add 43 SExc).ok Try.prog := Tab.add_ok (Tab.add_ok (T0_ok _) runs_shrink_open) runs_shrink_excess
        refine Runs.of_body Try.func27 (by decide) rfl (by simp [Try.f27]) ?_
        by_cases hz : chkT l = 0
        · rw [if_neg (by omega)] at hh
          cases hh
          have ho := open_ok hin hz
          have hexc : ∀ k, k < l.length → SExc [.agg (trL l).cells, .agg (l.getD k HD0).row] = some ⟨.bool (excT (trL l) (l.getD k HD0)), []⟩ := fun k hk => exc_at (inT_L hin) (by rw [hd_get hk]; exact hin.1 _ (List.getElem_mem hk))
          have hlen := hin.2
          simp only [TR.cells] at ho hexc
          refine W.seqE hT mixed M0 (by kernel_rfl) ?_
          simp [Try.f27]
          refine W.cut True [(0, .rd 5 (hRows l)), (4, .ptr 0 0), (5, .int .i64 0)] [.box 80 (trL l).cells] 33 ?_ ?_
          · refine W.of_WE hT mixed M0 _ (by kernel_rfl) ?_
            simp [Try.f27, ho, TR.cells]
          intro _
          refine W.wk (Wk.freeze 0 (.box 80 (trL l).cells) (by simp) (by simp [TR.cells])) ?_
          refine W.seqE hT mixed M0 (by kernel_rfl) ?_
          simp [Try.f27, TR.cells]
          refine W.seqE hT mixed M0 (by kernel_rfl) ?_
          simp [Try.f27]
          refine W.wk (Wk.adopt 6 1 9 (by omega) (by simp)) ?_
          refine W.cutw True [(6, .rd 1 (nmRows (nmsL (excL l))))] [] 33 ?_ ?_
          · refine W.seqE hT mixed M0 (by kernel_rfl) ?_
            simp [Try.f27]
            refine W.block (W.for (fun _ => True) (fun k => [(4, .rptr (trL l).cells 0), (6, .own 0), (17, .rd 5 (hRows l)), (18, .int .i64 l.length), (19, .int .i64 k)]) (fun k => [.sl 1 9 (nmRows (nmsL ((l.take k).filter (excT (trL l)))))]) 33 l.length trivial ?_ ?_)
            · simp [TR.cells, nmRows, nmsL]
            · intro k hk _
              by_cases hlt : k < l.length
              · have hw1 : IntKind.i64.wrap ((k : Int) + 1) = k + 1 := wr_i64 (by omega) (by omega)
                have he := hexc k hlt
                rw [hd_get hlt] at he
                simp only [HD.row] at he
                have hln : (nmRows (nmsL ((l.take k).filter (excT (trL l))))).length ≤ 1000 := by
                  simp; exact Nat.le_trans (List.length_filter_le _ _) (by simp; omega)
                refine W.of_WE hT mixed M0 _ (by kernel_rfl) ?_
                cases hx : excT (trL l) l[k]
                · have hsn : (l.take (k + 1)).filter (excT (trL l)) = (l.take k).filter (excT (trL l)) := by
                    rw [take_snoc' l k hlt, List.filter_append]; simp [hx]
                  rw [hx] at he
                  rw [hsn]
                  simp [Try.f27, hlt, HD.row, TR.cells, he, hw1]
                · have hsn : nmRows (nmsL ((l.take (k + 1)).filter (excT (trL l)))) = nmRows (nmsL ((l.take k).filter (excT (trL l)))) ++ [[.str l[k].n]] := by
                    rw [take_snoc' l k hlt, List.filter_append]; simp [hx, nmRows, nmsL, nmRow]
                  rw [hx] at he
                  rw [hsn]
                  generalize nmRows (nmsL ((l.take k).filter (excT (trL l)))) = R at *
                  simp [Try.f27, hlt, HD.row, TR.cells, he, hw1]
                  omega
              · have : k = l.length := by omega
                subst this
                refine W.of_WE hT mixed M0 _ (by kernel_rfl) ?_
                simp [Try.f27]
                refine Wk.trans (Wk.freeze 0 (.sl 1 9 (nmRows (nmsL (excL l)))) (by simp [excL]) (by simp)) ?_
                exact norm_wk [] (by simp [wkOkx, tmOk, dfOk, hpOk])
          intro _
          refine W.of_WE hT mixed M0 _ (by kernel_rfl) ?_
          simp [Try.f27]
        · rw [if_pos hz] at hh
          cases hh
          have ho := open_at hin
          have hz' : ¬ (opnE l).2.2 = 0 := hz
          refine W.of_WE hT mixed M0 _ (by kernel_rfl) ?_
          simp [Try.f27, ho, opnR, hz', chkT]
      · cases hh
    · cases hh
  · cases hh
def STwn : List V → Option Res
  | [.agg cs] => match rsOf cs with
    | some r => if lenRS 1000000 r then some ⟨.agg r.cells, []⟩ else none
    | none => none
  | _ => none
def M_f42 : Md := fun i => if i = 1 then some #[0, 1, 3, 0, 8, 31, 0, 64, 255, 511, 1023] else some #[]
@[simp] theorem M_f42_eq {i : Nat} : M_f42 i = (if i = 1 then some #[0, 1, 3, 0, 8, 31, 0, 64, 255, 511, 1023] else some #[]) := rfl
theorem runs_shrink_twin : ∀ args r, STwn args = some r → Runs Try.prog 42 args r := by
  intro args r hh
  unfold STwn at hh
  split at hh
  · rename_i cs
    split at hh
    · rename_i q hq
      split at hh
      · rename_i hlen
        cases hh
        have h1 := rsOf_eq hq
        subst h1
        have c4 := runs_Clone_sp (rows := sRows q.l4) (by rw [sRows_len]; exact hlen.1)
        have c6 := runs_Clone_sp (rows := sRows q.l6) (by rw [sRows_len]; exact hlen.2.1)
        have ca := runs_Clone_as (rows := aRows q.la) (by rw [aRows_len]; exact hlen.2.2)
        have hcl4 := SCloP_at (ls := [sRows q.l4, sRows q.l6]) (rows := sRows q.l4) (by simp)
        have hcl6 := SCloP_at (ls := [sRows q.l4, sRows q.l6]) (rows := sRows q.l6) (by simp)
        have hcla := SCloQ_at (ls := [aRows q.la]) (rows := aRows q.la) (by simp)
        have hT : ((T0.add 68 (SCloP [sRows q.l4, sRows q.l6])).add 69 (SCloQ [aRows q.la])).ok Try.prog :=
          Tab.add_ok (Tab.add_ok (T0_ok _) (fun a r h => SCloP_ok (by intro rows hm; simp at hm; rcases hm with rfl | rfl; exact c4; exact c6) h)) (fun a r h => SCloQ_ok (by intro rows hm; simp at hm; subst hm; exact ca) h)
        simp only [RS.cells]
        generalize sRows q.l4 = R4 at *
        generalize sRows q.l6 = R6 at *
        generalize aRows q.la = RA at *
        refine Runs.of_body Try.func42 (by decide) rfl (by simp [Try.f42]) ?_
        refine W.seqE hT mixed M_f42 (by kernel_rfl) ?_
        simp [Try.f42]
        refine W.cut True [(2, .ptr 0 0)] [.box 26 [.own 1, .own 2, .own 3], .sl 4 101 R4, .sl 4 101 R6, .sl 2 68 RA] 13 ?_ ?_
        · refine W.of_WE hT mixed M_f42 _ (by kernel_rfl) ?_
          simp [hcl4, hcl6, hcla]
        intro _
        refine W.wk (Wk.freeze 1 (.sl 4 101 R4) (by simp) (by simp)) ?_
        refine W.wk (Wk.freeze 2 (.sl 4 101 R6) (by simp) (by simp)) ?_
        refine W.wk (Wk.freeze 3 (.sl 2 68 RA) (by simp) (by simp)) ?_
        refine W.of_WE hT mixed M_f42 _ (by kernel_rfl) ?_
        simp
      · cases hh
    · cases hh
  · cases hh

end Go.Proofs.Ytkcmgjagjbiinaa.AL
namespace Go.Proofs.Ytkcmgjagjbiinaa.AL
open Go
attribute [local simp] qf cv qbin ibin sbin qun retPost rvOk ctV ctPost marksOk retV resAll resOf V.lt ltL V.ren renL V.exp V.exp1 cleanL V.clean closedL V.closed V.cells V.one V.tree
  loadV cellsAt isNC nilQ isSlD isIfD slNew ownRows ownCells V.isOwn slStore srcO qlook mlook mget mstr zval qnone qmake mput lmap isAggD placesOf fillV putCells lstore bound seqParts V.sh shL Blk.sh newV V.ok peqs peq srcRows qbytes byteSl appOk mmV mmR hidE V.fz fzL Blk.fz fzOk and_assoc
attribute [-simp] Int.not_le Int.not_lt Nat.not_le Nat.not_lt
def lenL (l : List HD) : Prop := l.length ≤ 1000 ∧ ∀ h ∈ l, lenRS 1000000 h.r
instance (l : List HD) : Decidable (lenL l) := by unfold lenL; infer_instance
def SCop : List V → Option Res
  | [.rd 5 rows] => match hdsOf rows with
    | some l => if lenL l then some ⟨.own 0, [.sl 5 52 (hRows l)]⟩ else none
    | none => none
  | _ => none
theorem set_row {l : List HD} {k : Nat} (h : k < l.length) : (hRows l).set k l[k].row = hRows l := by
  unfold hRows
  rw [← List.map_set, List.set_getElem_self]
theorem twn_at {r : RS} (h : lenRS 1000000 r) : STwn [.agg r.cells] = some ⟨.agg r.cells, []⟩ := by
  simp only [STwn, rsOf_cells]; rw [if_pos h]
theorem runs_shrink_copied : ∀ args r, SCop args = some r → Runs Try.prog 41 args r := by
  intro args r hh
  unfold SCop at hh
  split at hh
  · rename_i rows
    split at hh
    · rename_i l hl
      split at hh
      · rename_i hin
        obtain ⟨hlen, hrs⟩ := hin
        have h1 := parse_eq hdOf_eq hl
        subst h1
        cases hh
        change Runs _ _ [.rd 5 (hRows l)] _
        have hc := runs_Clone_hd (rows := hRows l) (by simp; omega)
        have hca := SCloH_at (ls := [hRows l]) (rows := hRows l) (by simp)
        have hT : ((T0.add 67 (SCloH [hRows l])).add 42 STwn).ok Try.prog :=
          Tab.add_ok (Tab.add_ok (T0_ok _) (fun a r h => SCloH_ok (by intro rows hm; simp at hm; subst hm; exact hc) h)) runs_shrink_twin
        refine Runs.of_body Try.func41 (by decide) rfl (by simp [Try.f41]) ?_
        refine W.seqE hT mixed M0 (by kernel_rfl) ?_
        simp [Try.f41]
        refine W.cut True [(3, .own 0)] [.sl 5 52 (hRows l)] 24 ?_ ?_
        · refine W.of_WE hT mixed M0 _ (by kernel_rfl) ?_
          simp [Try.f41, hca]
        intro _
        refine W.cut True [(3, .own 0)] [.sl 5 52 (hRows l)] 24 ?_ ?_
        · refine W.seqE hT mixed M0 (by kernel_rfl) ?_
          simp [Try.f41]
          refine W.block (W.for (fun _ => True) (fun k => [(3, .own 0), (8, .int .i64 l.length), (9, .int .i64 k)]) (fun k => [.sl 5 52 (hRows l)]) 24 l.length trivial ?_ ?_)
          · simp
          · intro k hk _
            refine W.of_WE hT mixed M0 _ (by kernel_rfl) ?_
            by_cases hlt : k < l.length
            · have hw1 : IntKind.i64.wrap ((k : Int) + 1) = k + 1 := wr_i64 (by omega) (by omega)
              have ht := twn_at (hrs l[k] (List.getElem_mem hlt))
              have hs := set_row hlt
              simp only [RS.cells] at ht
              simp only [HD.row] at hs
              simp [Try.f41, hlt, HD.row, ht, hw1, hs]
            · have : k = l.length := by omega
              subst this
              simp [Try.f41]
        intro _
        refine W.of_WE hT mixed M0 _ (by kernel_rfl) ?_
        simp [Try.f41]
      · cases hh
    · cases hh
  · cases hh
/-- What a test says of a row. -/
def prH (p : HD → Bool) (r : List V) : Bool := match hdOf r with
  | some h => p h
  | none => false
theorem prH_row (p : HD → Bool) (h : HD) : prH p h.row = p h := by unfold prH; rw [hdOf_row]
theorem any_prH (p : HD → Bool) (l : List HD) : (hRows l).any (prH p) = l.any p := by
  unfold hRows
  rw [List.any_map]
  congr 1
  funext h
  exact prH_row p h
theorem runs_IndexFunc_hd {g : FuncId} {S : List V → Option Res} {fi caps : List V} {p : HD → Bool} {l : List HD} (hg : ∀ args r, S args = some r → Runs Try.prog g args r) (hfi : cleanL fi = true) (hca : cleanL caps = true)
    (hlen : l.length ≤ 1000) (hS : ∀ h ∈ l, S (fi ++ [.agg h.row] ++ caps) = some ⟨.bool (p h), []⟩) :
    Runs Try.prog 70 [.rd 5 (hRows l), .fn g fi caps] ⟨.int .i64 (idxP (prH p) (hRows l)), []⟩ := by
  have hT : (T0.add g S).ok Try.prog := Tab.add_ok (T0_ok _) hg
  have hren := cleanL_ren [] 0 fi hfi
  have hren2 := cleanL_ren [] 0 caps hca
  have hcl : ∀ x : V, cleanL (fi ++ (x :: caps)) = x.clean := by
    intro x
    have e : ∀ a b : List V, cleanL (a ++ b) = (cleanL a && cleanL b) := by
      intro a
      induction a with
      | nil => intro b; simp [cleanL]
      | cons x a ih => intro b; simp [cleanL, ih, Bool.and_assoc]
    rw [e, hfi]; simp [cleanL, hca]
  obtain ⟨X, hX⟩ : ∃ X, X = idxP (prH p) (hRows l) := ⟨_, rfl⟩
  refine Runs.of_body Try.func70 (by decide) rfl (by simp [Try.f70]) ?_
  rw [← hX]
  refine W.seqE hT mixed M0 (by kernel_rfl) ?_
  simp [Try.f70]
  refine W.cut (X = -1) [] [] 19 ?_ ?_
  · refine W.seqE hT mixed M0 (by kernel_rfl) ?_
    simp [Try.f70]
    refine W.block (W.for (fun k => ∀ i (hi : i < k) (h : i < l.length), p l[i] = false) (fun k => [(0, .rd 5 (hRows l)), (1, .fn g fi caps), (6, .rd 5 (hRows l)), (7, .int .i64 l.length), (8, .int .i64 k)]) (fun k => []) 19 l.length (fun i hi => absurd hi (by omega)) ?_ ?_)
    · simp [hfi, hca, hren.2, hren2.2, hren.1, hren2.1]
    · intro k hk hJ
      refine W.of_WE hT mixed M0 _ (by kernel_rfl) ?_
      by_cases hlt : k < l.length
      · have hw1 : IntKind.i64.wrap ((k : Int) + 1) = k + 1 := wr_i64 (by omega) (by omega)
        have hs := hS l[k] (List.getElem_mem hlt)
        simp only [List.append_assoc, List.cons_append, List.nil_append, HD.row] at hs
        cases hp : p l[k]
        · rw [hp] at hs
          have hJ' : ∀ i (hi : i < k + 1) (h : i < l.length), p l[i] = false := fun i hi h => by
            rcases Nat.lt_or_ge i k with g | g
            · exact hJ i g h
            · have : i = k := by omega
              subst this; exact hp
          simp [hlt, HD.row, hs, hw1, hcl, hfi, hca, hren.1, hren2.1, hren.2, hren2.2]
          exact hJ'
        · rw [hp] at hs
          have hx : X = k := by
            rw [hX]
            exact idxP_at (by simpa using hlt) (fun i hi => by rw [hRows_getElem, prH_row]; exact hJ i hi (by omega)) (by rw [hRows_getElem, prH_row]; exact hp)
          simp [hlt, HD.row, hs, hw1, hcl, hfi, hca, hren.1, hren2.1, hx]
      · have : k = l.length := by omega
        subst this
        simp
        rw [hX]
        exact idxP_none fun r hr => by
          obtain ⟨h, hh, rfl⟩ := List.mem_map.1 hr
          obtain ⟨i, hi, rfl⟩ := List.getElem_of_mem hh
          rw [prH_row]; exact hJ i hi hi
  · intro hi
    refine W.of_WE hT mixed M0 _ (by kernel_rfl) ?_
    simp [Try.f70, hi]

theorem runs_ContainsFunc_hd {g : FuncId} {S : List V → Option Res} {fi caps : List V} {p : HD → Bool} {l : List HD} (hg : ∀ args r, S args = some r → Runs Try.prog g args r) (hfi : cleanL fi = true) (hca : cleanL caps = true)
    (hlen : l.length ≤ 1000) (hS : ∀ h ∈ l, S (fi ++ [.agg h.row] ++ caps) = some ⟨.bool (p h), []⟩) :
    Runs Try.prog 44 [.rd 5 (hRows l), .fn g fi caps] ⟨.bool (l.any p), []⟩ := by
  have hi := runs_IndexFunc_hd hg hfi hca hlen hS
  have hT : (T0.add 70 (oneS _ _)).ok Try.prog := Tab.add_ok (T0_ok _) (oneS_ok hi)
  have ho := oneS_self (args := [.rd 5 (hRows l), .fn g fi caps]) (r := ⟨.int .i64 (idxP (prH p) (hRows l)), []⟩)
  have ha : decide (0 ≤ idxP (prH p) (hRows l)) = l.any p := by rw [idxP_any, any_prH]
  generalize idxP (prH p) (hRows l) = X at *
  refine Runs.of_body Try.func44 (by decide) rfl (by simp [Try.f44]) ?_
  refine W.of_WE hT mixed M0 _ (by kernel_rfl) ?_
  simp [Try.f44, ho, hfi, hca, ha]
/-- Have they the same name and the same parent? -/
def npE (x y : HD) : Bool := decide (x.n = y.n) && decide (x.p = y.p)
def SNp : List V → Option Res
  | [.agg a, .agg b] => match hdOf a, hdOf b with
    | some x, some y => some ⟨.bool (npE x y), []⟩
    | _, _ => none
  | _ => none
theorem runs_Plan_1 : ∀ args r, SNp args = some r → Runs Try.prog 53 args r := by
  intro args r hh
  unfold SNp at hh
  split at hh
  · rename_i a b
    split at hh
    · rename_i x y hx hy
      have h1 := hdOf_eq _ _ hx
      have h2 := hdOf_eq _ _ hy
      subst h1 h2
      cases hh
      refine Runs.of_body Try.func53 (by decide) rfl (by simp [Try.f53]) ?_
      refine W.of_WE (T0_ok _) mixed M0 _ (by kernel_rfl) ?_
      have e1 := bytes_dec x.n y.n
      have e2 := bytes_dec x.p y.p
      unfold npE
      rw [← e1, ← e2]
      by_cases h1 : x.n.toList = y.n.toList
      · simp [Try.f53, HD.row, h1]
      · simp [Try.f53, HD.row, h1]
    · cases hh
  · cases hh
def shpB (a b : List HD) : Bool := decide (a.length = b.length) && (List.range a.length).all fun i => npE (a.getD i HD0) (b.getD i HD0)
def SEqf : List V → Option Res
  | [.rd 5 ra, .rd 5 rb, .fn 53 [] []] => match hdsOf ra, hdsOf rb with
    | some a, some b => if a.length ≤ 1000 ∧ b.length ≤ 1000 then some ⟨.bool (shpB a b), []⟩ else none
    | _, _ => none
  | _ => none
theorem np_at (x y : HD) : SNp [.agg x.row, .agg y.row] = some ⟨.bool (npE x y), []⟩ := by simp only [SNp, hdOf_row]
theorem runs_EqualFunc_hd : ∀ args r, SEqf args = some r → Runs Try.prog 52 args r := by
  intro args r hh
  unfold SEqf at hh
  split at hh
  · rename_i ra rb
    split at hh
    · rename_i a b ha hb
      split at hh
      · rename_i hlen
        obtain ⟨la, lb⟩ := hlen
        have h1 := parse_eq hdOf_eq ha
        have h2 := parse_eq hdOf_eq hb
        subst h1 h2
        cases hh
        change Runs _ _ [.rd 5 (hRows a), .rd 5 (hRows b), _] _
        have hT : (T0.add 53 SNp).ok Try.prog := Tab.add_ok (T0_ok _) runs_Plan_1
        obtain ⟨X, hX⟩ : ∃ X, X = shpB a b := ⟨_, rfl⟩
        rw [← hX]
        refine Runs.of_body Try.func52 (by decide) rfl (by simp [Try.f52]) ?_
        refine W.seqE hT mixed M0 (by kernel_rfl) ?_
        simp [Try.f52]
        by_cases hl : a.length = b.length
        · refine W.seqE hT mixed M0 (by kernel_rfl) ?_
          simp [Try.f52, hl]
          refine W.cut (X = true) [] [] 32 ?_ ?_
          · refine W.seqE hT mixed M0 (by kernel_rfl) ?_
            simp [Try.f52, hl]
            refine W.block (W.for (fun k => ∀ i, i < k → npE (a.getD i HD0) (b.getD i HD0) = true) (fun k => [(1, .rd 5 (hRows b)), (2, .fn 53 [] []), (15, .rd 5 (hRows a)), (16, .int .i64 b.length), (17, .int .i64 k)]) (fun k => []) 32 b.length (fun i hi => absurd hi (by omega)) ?_ ?_)
            · simp
            · intro k hk hJ
              refine W.of_WE hT mixed M0 _ (by kernel_rfl) ?_
              by_cases hlt : k < b.length
              · have hlt2 : k < a.length := by omega
                have hw1 : IntKind.i64.wrap ((k : Int) + 1) = k + 1 := wr_i64 (by omega) (by omega)
                have hs := np_at a[k] b[k]
                simp only [HD.row] at hs
                cases hp : npE a[k] b[k]
                · rw [hp] at hs
                  have hx : X = false := by
                    rw [hX]
                    unfold shpB
                    have : ((List.range a.length).all fun i => npE (a.getD i HD0) (b.getD i HD0)) = false := by
                      rw [List.all_eq_false]
                      exact ⟨k, by simpa using hlt2, by rw [hd_get hlt2, hd_get hlt, hp]; simp⟩
                    rw [this, Bool.and_false]
                  simp [hlt, hlt2, HD.row, hs, hx]
                · rw [hp] at hs
                  have hJ' : ∀ i, i < k + 1 → npE (a.getD i HD0) (b.getD i HD0) = true := fun i hi => by
                    rcases Nat.lt_or_ge i k with g | g
                    · exact hJ i g
                    · have : i = k := by omega
                      subst this; rw [hd_get hlt2, hd_get hlt, hp]
                  simp only [List.getD_eq_getElem?_getD] at hJ'
                  simp [hlt, hlt2, HD.row, hs, hw1]
                  exact hJ'
              · have : k = b.length := by omega
                subst this
                have hx : X = true := by
                  rw [hX]
                  unfold shpB
                  rw [decide_eq_true hl, Bool.true_and, List.all_eq_true]
                  intro i hi
                  exact hJ i (by rw [List.mem_range] at hi; omega)
                simp [hx]
          · intro hi
            refine W.of_WE hT mixed M0 _ (by kernel_rfl) ?_
            simp [Try.f52, hi]
        · have hx : X = false := by rw [hX]; unfold shpB; rw [decide_eq_false hl, Bool.false_and]
          have hl' : ¬ (a.length : Int) = b.length := by omega
          refine W.of_WE hT mixed M0 _ (by kernel_rfl) ?_
          simp [Try.f52, hl', hx]
      · cases hh
    · cases hh
  · cases hh
def SApp1 : List V → Option Res
  | [.agg ch, .rptr [.str n, .rd 4 a, .rd 4 b, .rd 2 c] 0, .rptr ct 0] => match hdOf ch, trOf ct with
    | some h, some t => if inT t ∧ inHD h then some ⟨.bool (decide (h.p = n) && excT t h), []⟩ else none
    | _, _ => none
  | _ => none
theorem runs_Apply_1 : ∀ args r, SApp1 args = some r → Runs Try.prog 45 args r := by
  intro args r hh
  unfold SApp1 at hh
  split at hh
  · rename_i ch n a b c ct
    split at hh
    · rename_i h t hx hy
      split at hh
      · rename_i hin
        have h1 := hdOf_eq _ _ hx
        have h2 := trOf_eq hy
        subst h1 h2
        cases hh
        have he := exc_at hin.1 hin.2
        simp only [TR.cells, HD.row] at he
        have hT : (T0.add 43 SExc).ok Try.prog := Tab.add_ok (T0_ok _) runs_shrink_excess
        refine Runs.of_body Try.func45 (by decide) rfl (by simp [Try.f45]) ?_
        refine W.of_WE hT mixed M0 _ (by kernel_rfl) ?_
        have e1 := bytes_dec h.p n
        rw [← e1]
        by_cases h1 : h.p.toList = n.toList
        · simp [Try.f45, HD.row, TR.cells, h1, he]
        · simp [Try.f45, HD.row, TR.cells, h1, he]
      · cases hh
    · cases hh
  · cases hh

end Go.Proofs.Ytkcmgjagjbiinaa.AL
