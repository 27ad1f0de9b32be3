import Derived.Test.YtkcmgjagjbiinaaC21nW5
import Derived.Test.YtkcmgjagjbiinaaC21nW1
/- What single functions compute: a part of the proof; no conditions. -/
set_option linter.unusedVariables false
set_option linter.unusedSimpArgs false
set_option maxRecDepth 100000
namespace Go.Proofs.Ytkcmgjagjbiinaa.AL
open Go
attribute [local simp] qf cv qbin ibin sbin qun retPost rvOk ctV ctPost marksOk retV resAll resOf V.lt ltL V.ren renL V.exp V.exp1 cleanL V.clean closedL V.closed V.cells V.one V.tree
  loadV cellsAt isNC nilQ isSlD isIfD slNew ownRows ownCells V.isOwn slStore srcO qlook mlook mget mstr zval qnone qmake mput lmap isAggD placesOf fillV putCells lstore bound seqParts V.sh shL Blk.sh newV V.ok peqs peq srcRows qbytes byteSl appOk mmV mmR hidE V.fz fzL Blk.fz fzOk and_assoc
attribute [-simp] Int.not_le Int.not_lt Nat.not_le Nat.not_lt
theorem chk_parts {f : Int} {s : SP} (h : chkS f s.h s.l s.h' s.l' = 0) (hs : inSP s) : inA s.h s.l ∧ inA s.h' s.l' ∧ cAddr f s.h s.l = true ∧ cAddr f s.h' s.l' = true ∧ numA (s.h, s.l) ≤ numA (s.h', s.l') := by
  obtain ⟨h1, h2, h3⟩ := chkS_zero h
  obtain ⟨s1, s2, s3, s4, s5, s6, s7, s8⟩ := hs
  have i1 : inA s.h s.l := ⟨s1, s2, s3, s4⟩
  have i2 : inA s.h' s.l' := ⟨s5, s6, s7, s8⟩
  exact ⟨i1, i2, h1, h2, (cmpA_le i1 i2).1 h3⟩
theorem cAddr6 (h l : Int) : cAddr 6 h l = true := rfl
theorem cmpA_gt {a b c d : Int} (h1 : inA a b) (h2 : inA c d) : 0 < cmpA a b c d ↔ numA (c, d) < numA (a, b) := by
  obtain ⟨a0, a1, b0, b1⟩ := h1
  obtain ⟨c0, c1, d0, d1⟩ := h2
  unfold cmpA numA
  simp only
  split
  · omega
  · split <;> omega
theorem cmpA_ge {a b c d : Int} (h1 : inA a b) (h2 : inA c d) : 0 ≤ cmpA a b c d ↔ numA (c, d) ≤ numA (a, b) := by
  obtain ⟨a0, a1, b0, b1⟩ := h1
  obtain ⟨c0, c1, d0, d1⟩ := h2
  unfold cmpA numA
  simp only
  split
  · omega
  · split <;> omega
/-- Two more than the other, in numbers. -/
theorem aftB_iff {ah al bh bl : Int} (ha : inA ah al) (hb : inA bh bl) : aftB ah al bh bl = true ↔ numA (bh, bl) + 1 < numA (ah, al) := by
  have hn := nextA_num hb (cAddr6 bh bl)
  have hA := numA_lt ha (cAddr6 ah al)
  have hw : widN 6 = 128 := rfl
  rw [hw] at hn hA
  unfold aftB
  rcases ltge (numA (bh, bl) + 1) (2 ^ 128) with h | h
  · obtain ⟨x, y, e, hxy, hi⟩ := hn.1 h
    rw [e]
    simp only [Bool.true_and, decide_eq_true_eq]
    rw [cmpA_gt ha hi, hxy]
  · have hB := numA_lt hb (cAddr6 bh bl)
    rw [hw] at hB
    rw [hn.2 (by omega)]
    simp only [Bool.false_and, Bool.false_eq_true, false_iff]
    omega
/-- The same with the family's own next address. -/
theorem nxt_iff {f ah al bh bl : Int} (ha : inA ah al) (hb : inA bh bl) (ca : cAddr f ah al = true) (cb : cAddr f bh bl = true) :
    ((nextA f bh bl).2.2 = true ∧ ¬ 0 ≤ cmpA (nextA f bh bl).1 (nextA f bh bl).2.1 ah al) ↔ numA (bh, bl) + 1 < numA (ah, al) := by
  have hn := nextA_num hb cb
  have hA := numA_lt ha ca
  have hB := numA_lt hb cb
  rcases ltge (numA (bh, bl) + 1) (2 ^ widN f) with h | h
  · obtain ⟨x, y, e, hxy, hi⟩ := hn.1 h
    rw [e]
    simp only [true_and]
    rw [cmpA_ge hi ha, hxy]
    omega
  · rw [hn.2 (by omega)]
    simp only [Bool.false_eq_true, false_and, false_iff]
    omega
theorem aftS_nxt {f : Int} {s t : SP} (hs : inSP s) (ht : inSP t) (cs : chkS f s.h s.l s.h' s.l' = 0) (ct : chkS f t.h t.l t.h' t.l' = 0) :
    aftS s t = true ↔ ((nextA f t.h' t.l').2.2 = true ∧ ¬ 0 ≤ cmpA (nextA f t.h' t.l').1 (nextA f t.h' t.l').2.1 s.h s.l) := by
  obtain ⟨s1, s2, s3, s4, s5⟩ := chk_parts cs hs
  obtain ⟨t1, t2, t3, t4, t5⟩ := chk_parts ct ht
  rw [nxt_iff s1 t2 s3 t4]
  exact aftB_iff s1 t2
theorem chkR_0 {r : RS} : chkR r = 0 ↔ chkdR r = 0 ∧ ∀ k, k < 3 → nrmL (r.lst k) = true := by
  unfold chkR
  have e : (nrmL r.l4 = true ∧ nrmL r.l6 = true ∧ nrmL (r.la.map wideS) = true) ↔ ∀ k, k < 3 → nrmL (r.lst k) = true := by
    constructor
    · rintro ⟨g0, g1, g2⟩ k hk
      match k, hk with
      | 0, _ => exact g0
      | 1, _ => exact g1
      | 2, _ => exact g2
    · exact fun h => forall3 h
  rw [← e]
  split
  · simp_all
  · split <;> simp_all
theorem chkR_8 {r : RS} (h0 : chkdR r = 0) {k : Nat} (hk : k < 3) (h : nrmL (r.lst k) = false) : chkR r = 8 := by
  unfold chkR
  rw [if_neg (by omega), if_neg]
  rintro ⟨g0, g1, g2⟩
  match k, hk, h with
  | 0, _, h => exact absurd (h.symm.trans g0) (by simp)
  | 1, _, h => exact absurd (h.symm.trans g1) (by simp)
  | 2, _, h => exact absurd (h.symm.trans g2) (by simp)
def M_f46 : Md := fun i => if i = 10 then some #[0, 0, 3, 7, 0, 0, 48, 112, 0, 256, 1008, 2032, 4080, 8191, 16383, 32767, 32767, 0, 196607, 524287] else if i = 11 then some #[0, 1, 3, 7, 7, 7, 55, 119, 7, 503, 1015, 2039, 4095, 8191, 16383] else some #[]
@[simp] theorem M_f46_eq {i : Nat} : M_f46 i = (if i = 10 then some #[0, 0, 3, 7, 0, 0, 48, 112, 0, 256, 1008, 2032, 4080, 8191, 16383, 32767, 32767, 0, 196607, 524287] else if i = 11 then some #[0, 1, 3, 7, 7, 7, 55, 119, 7, 503, 1015, 2039, 4095, 8191, 16383] else some #[]) := rfl
theorem runs_ref03_Check : ∀ args r, SChkR args = some r → Runs Try.prog 46 args r := by
  intro args r hh
  unfold SChkR at hh
  split at hh
  · rename_i cs
    split at hh
    · rename_i r hr
      split at hh
      · rename_i hin
        obtain ⟨hin, hlen⟩ := hin
        cases hh
        have h1 := rsOf_eq hr
        subst h1
        have hs := lists_at hin hlen
        have hcd := chkd_at hin hlen
        have hT : ((((T0.add 38 SLists).add 71 SChkd).add 72 SNext).add 73 SCompare).ok Try.prog := Tab.add_ok (Tab.add_ok (Tab.add_ok (Tab.add_ok (T0_ok _) runs_ref03_lists) runs_ref03_Valid) runs_ref02_Next) runs_ref01_Compare
        simp only [RS.cells] at hs hcd ⊢
        refine Runs.of_body Try.func46 (by decide) rfl (by simp [Try.f46]) ?_
        refine W.seqE hT mixed M_f46 (by kernel_rfl) ?_
        simp [Try.f46]
        refine W.cut (chkdR r = 0) [(1, .ptr 0 0)] [.box 26 [.rd 4 (sRows r.l4), .rd 4 (sRows r.l6), .rd 2 (aRows r.la)]] 64 ?_ ?_
        · refine W.of_WE hT mixed M_f46 _ (by kernel_rfl) ?_
          simp [Try.f46, hcd]
          intro h
          unfold chkR
          rw [if_pos h]
        · intro hz
          obtain ⟨hL, hg⟩ := chkdR_0.1 hz
          refine W.seqE hT mixed M_f46 (by kernel_rfl) ?_
          simp [hs]
          refine W.cut (∀ k, k < 3 → nrmL (r.lst k) = true) [] [] 64 ?_ ?_
          · refine W.seqE hT mixed M_f46 (by kernel_rfl) ?_
            simp
            refine W.block (W.for (fun k => ∀ j, j < k → nrmL (r.lst j) = true) (fun k => [(3, .rd 1 (lstRows r)), (4, .rd 1 famRows), (5, .int .i64 k)]) (fun k => []) 64 3 (fun j hj => absurd hj (by omega)) ?_ ?_)
            · simp
            · intro k hk hJ
              refine W.seqE hT mixed M_f46 (by kernel_rfl) ?_
              by_cases hlt : k < 3
              · have hw1 : IntKind.i64.wrap ((k : Int) + 1) = k + 1 := wr_i64 (by omega) (by omega)
                have hlt' : (k : Int) < 3 := by omega
                have hlk := hL k hlt
                have hgk := hg k hlt
                have hik := inSP_lst hin k
                simp [hlt, hlt']
                refine W.cut (nrmL (r.lst k) = true) [(3, .rd 1 (lstRows r)), (4, .rd 1 famRows), (5, .int .i64 k)] [] 64 ?_ ?_
                · refine W.block ?_
                  refine W.seqE hT mixed M_f46 (by kernel_rfl) ?_
                  simp
                  refine W.block (W.for (fun i => ∀ j (hj : j < i) (h : j + 1 < (r.lst k).length), aftS (r.lst k)[j + 1] ((r.lst k)[j]'(by omega)) = true) (fun i => [(3, .rd 1 (lstRows r)), (4, .rd 1 famRows), (5, .int .i64 k), (6, .int .i64 ((i : Int) + 1))]) (fun _ => []) 64 ((r.lst k).length - 1) (fun j hj => absurd hj (by omega)) ?_ ?_)
                  · simp
                  · intro i hi hJi
                    refine W.of_WE hT mixed M_f46 _ (by kernel_rfl) ?_
                    by_cases hil : i + 1 < (r.lst k).length
                    · have hw2 : IntKind.i64.wrap ((i : Int) + 1 + 1) = (i : Int) + 1 + 1 := wr_i64 (by omega) (by omega)
                      have hw3 : IntKind.i64.wrap (i : Int) = (i : Int) := wr_i64 (by omega) (by omega)
                      have hw4 : ((i : Int) + 1).toNat = i + 1 := by omega
                      have hil1 : (i : Int) + 1 < (r.lst k).length := by omega
                      have hil2 : i < (r.lst k).length := by omega
                      have hp1 : (0 : Int) ≤ (i : Int) + 1 := by omega
                      have hx := aftS_nxt (hik _ (List.getElem_mem hil)) (hik _ (List.getElem_mem hil2)) (any_iff.1 hgk (i + 1) hil) (any_iff.1 hgk i hil2)
                      have ht := hik _ (List.getElem_mem hil2)
                      have htA : inA (r.lst k)[i].h' (r.lst k)[i].l' := ⟨ht.2.2.2.2.1, ht.2.2.2.2.2.1, ht.2.2.2.2.2.2.1, ht.2.2.2.2.2.2.2⟩
                      have hnx : SNext [.int .u8 (famK k), .agg [.int .u64 (r.lst k)[i].h', .int .u64 (r.lst k)[i].l']] = some ⟨.tup [.agg [.int .u64 (nextA (famK k) (r.lst k)[i].h' (r.lst k)[i].l').1, .int .u64 (nextA (famK k) (r.lst k)[i].h' (r.lst k)[i].l').2.1], .bool (nextA (famK k) (r.lst k)[i].h' (r.lst k)[i].l').2.2], []⟩ := by
                        simp only [SNext]; rw [if_pos htA]
                      have hjj : ∀ (h : aftS (r.lst k)[i + 1] ((r.lst k)[i]'(by omega)) = true), ∀ j (hj : j < i + 1) (h : j + 1 < (r.lst k).length), aftS (r.lst k)[j + 1] ((r.lst k)[j]'(by omega)) = true := by
                        intro h0 j hj h
                        rcases Nat.lt_or_ge j i with g | g
                        · exact hJi j g h
                        · have : j = i := by omega
                          subst this; exact h0
                      have hff : ∀ (h : aftS (r.lst k)[i + 1] ((r.lst k)[i]'(by omega)) = false), chkR r = 8 := by
                        intro h0
                        refine chkR_8 hz hlt ?_
                        rw [Bool.eq_false_iff]
                        intro hc
                        have := nrmL_iff.1 hc i hil
                        rw [h0] at this; cases this
                      generalize nextA (famK k) (r.lst k)[i].h' (r.lst k)[i].l' = n at *
                      cases n1 : n.2.2
                      · have h0 : aftS (r.lst k)[i + 1] ((r.lst k)[i]'(by omega)) = false := by
                          rw [Bool.eq_false_iff]
                          intro h
                          have := (hx.1 h).1
                          rw [n1] at this; cases this
                        simp [hlt, hlt', hil, hil1, hil2, hp1, lstRows_get r hlt, famRows_get hlt, SP.row, hnx, hw3, hw4, n1, hff h0]
                      · by_cases n2 : 0 ≤ cmpA n.1 n.2.1 (r.lst k)[i + 1].h (r.lst k)[i + 1].l
                        · have h0 : aftS (r.lst k)[i + 1] ((r.lst k)[i]'(by omega)) = false := by
                            rw [Bool.eq_false_iff]
                            intro h
                            exact (hx.1 h).2 n2
                          simp [hlt, hlt', hil, hil1, hil2, hp1, lstRows_get r hlt, famRows_get hlt, SP.row, hnx, hw3, hw4, n1, n2, SCompare, hff h0]
                        · have h0 := hx.2 ⟨n1, n2⟩
                          simp [hlt, hlt', hil, hil1, hil2, hp1, lstRows_get r hlt, famRows_get hlt, SP.row, hnx, hw2, hw3, hw4, n1, n2, SCompare]
                          exact ⟨by omega, hjj h0⟩
                    · have hil1 : ¬ (i : Int) + 1 < (r.lst k).length := by omega
                      simp [hlt, hlt', hil1, lstRows_get r hlt]
                      rw [nrmL_iff]
                      exact fun j hj => hJi j (by omega) hj
                · intro hgg
                  have hJ' : ∀ j, j < k + 1 → nrmL (r.lst j) = true := by
                    intro j hj
                    rcases Nat.lt_or_ge j k with g | g
                    · exact hJ j g
                    · rw [show j = k by omega]; exact hgg
                  refine W.of_WE hT mixed M_f46 _ (by kernel_rfl) ?_
                  simp [hw1, hlt]
                  exact hJ'
              · have : k = 3 := by omega
                subst this
                simp
                exact hJ
          · intro hgg
            have hv : chkR r = 0 := chkR_0.2 ⟨hz, hgg⟩
            refine W.of_WE hT mixed M_f46 _ (by kernel_rfl) ?_
            simp [Try.f46, hv]
      · cases hh
    · cases hh
  · cases hh
def SBoth : List V → Option Res
  | [.agg ca, .agg cb] => match rsOf ca, rsOf cb with
    | some a, some b => if inRS a ∧ inRS b ∧ lenRS 1000000 a ∧ lenRS 1000000 b then some ⟨.int .i64 (orE2 (chkR a) (chkR b)), []⟩ else none
    | _, _ => none
  | _ => none
theorem runs_ref03_Both : ∀ args r, SBoth args = some r → Runs Try.prog 76 args r := by
  intro args r hh
  unfold SBoth at hh
  split at hh
  · rename_i ca cb
    split at hh
    · rename_i a b ha hb
      split at hh
      · rename_i hin
        obtain ⟨ina, inb, la, lb⟩ := hin
        cases hh
        have h1 := rsOf_eq ha
        have h2 := rsOf_eq hb
        subst h1 h2
        have ca := chkR_at ina la
        have cb := chkR_at inb lb
        simp only [RS.cells] at ca cb
        have hT : (T0.add 46 SChkR).ok Try.prog := Tab.add_ok (T0_ok _) runs_ref03_Check
        refine Runs.of_body Try.func76 (by decide) rfl (by simp [Try.f76]) ?_
        refine W.of_WE hT mixed M0 _ (by kernel_rfl) ?_
        by_cases c : chkR a = 0
        · rw [c] at ca
          simp [Try.f76, RS.cells, ca, cb, orE2, c]
        · simp [Try.f76, RS.cells, ca, cb, orE2, c]
      · cases hh
    · cases hh
  · cases hh

end Go.Proofs.Ytkcmgjagjbiinaa.AL
namespace Go.Proofs.Ytkcmgjagjbiinaa.AL
open Go
attribute [local simp] qf cv qbin ibin sbin qun retPost rvOk ctV ctPost marksOk retV resAll resOf V.lt ltL V.ren renL V.exp V.exp1 cleanL V.clean closedL V.closed V.cells V.one V.tree
  loadV cellsAt isNC nilQ isSlD isIfD slNew ownRows ownCells V.isOwn slStore srcO qlook mlook mget mstr zval qnone qmake mput lmap isAggD placesOf fillV putCells lstore bound seqParts V.sh shL Blk.sh newV V.ok peqs peq srcRows qbytes byteSl appOk mmV mmR hidE V.fz fzL Blk.fz fzOk and_assoc
attribute [-simp] Int.not_le Int.not_lt Nat.not_le Nat.not_lt
/-- Inserted into an increasing list. -/
def insA : List (Int × Int) → Int × Int → List (Int × Int)
  | [], a => [a]
  | x :: l, a => if cmpA x.1 x.2 a.1 a.2 < 0 then x :: insA l a else if x = a then x :: l else a :: x :: l
theorem insA_at {a : Int × Int} : ∀ {l : List (Int × Int)} {k : Nat} (hk : k ≤ l.length), (∀ i (hi : i < k), cmpA (l[i]'(by omega)).1 (l[i]'(by omega)).2 a.1 a.2 < 0) → (∀ h : k < l.length, ¬ cmpA l[k].1 l[k].2 a.1 a.2 < 0) →
    insA l a = if ∃ h : k < l.length, l[k] = a then l else l.take k ++ a :: l.drop k
  | [], 0, _, _, _ => by simp [insA]
  | x :: l, 0, _, _, h => by
    have := h (by simp)
    simp only [List.getElem_cons_zero] at this
    rw [insA, if_neg this]
    by_cases e : x = a
    · rw [if_pos e, if_pos ⟨by simp, e⟩]
    · rw [if_neg e, if_neg (by rintro ⟨_, h⟩; exact e h)]; rfl
  | x :: l, k + 1, hk, hf, h => by
    have h0 := hf 0 (by omega)
    simp only [List.getElem_cons_zero] at h0
    have ih := insA_at (a := a) (l := l) (k := k) (by simpa using hk) (fun i hi => by have := hf (i + 1) (by omega); simpa using this) (fun h' => by have := h (by simpa using h'); simpa using this)
    rw [insA, if_pos h0, ih]
    by_cases e : ∃ h : k < l.length, l[k] = a
    · rw [if_pos e, if_pos]
      obtain ⟨e1, e2⟩ := e
      exact ⟨by simpa using e1, by simpa using e2⟩
    · rw [if_neg e, if_neg]
      · rfl
      · rintro ⟨e1, e2⟩
        exact e ⟨by simpa using e1, by simpa using e2⟩
def SIns : List V → Option Res
  | [.rd 2 rows, .agg [.int .u64 x, .int .u64 y]] => match adsOf rows with
    | some l => if l.length ≤ 1000000 then some ⟨.rd 2 (adRows (insA l (x, y))), []⟩ else none
    | none => none
  | _ => none
def M_f111 : Md := fun i => if i = 2 then some #[0, 0, 2, 7, 15, 31, 31, 127, 255, 31, 1023, 2047, 4095] else if i = 4 then some #[0, 0, 2, 7, 15, 31, 31, 127, 255, 31, 1023, 2047] else if i = 6 then some #[0, 0, 0, 6, 15, 0, 32, 127, 0, 0, 768, 2047, 4095, 0, 0, 0, 0, 0, 96] else some #[]
@[simp] theorem M_f111_eq {i : Nat} : M_f111 i = (if i = 2 then some #[0, 0, 2, 7, 15, 31, 31, 127, 255, 31, 1023, 2047, 4095] else if i = 4 then some #[0, 0, 2, 7, 15, 31, 31, 127, 255, 31, 1023, 2047] else if i = 6 then some #[0, 0, 0, 6, 15, 0, 32, 127, 0, 0, 768, 2047, 4095, 0, 0, 0, 0, 0, 96] else some #[]) := rfl
theorem runs_ref03_insert : ∀ args r, SIns args = some r → Runs Try.prog 111 args r := by
  intro args r hh
  unfold SIns at hh
  split at hh
  · rename_i rows x y
    split at hh
    · rename_i l hl
      split at hh
      · rename_i hlen
        cases hh
        have h1 := parse_eq adOf_eq hl
        subst h1
        have hT : (T0.add 73 SCompare).ok Try.prog := Tab.add_ok (T0_ok _) runs_ref01_Compare
        refine Runs.of_body Try.func111 (by decide) rfl (by simp [Try.f111]) ?_
        refine W.seqE hT mixed M_f111 (by kernel_rfl) ?_
        simp [Try.f111]
        refine W.seqE hT mixed M_f111 (by kernel_rfl) ?_
        simp
        obtain ⟨N, hN, hNf, hNn⟩ : ∃ N, N ≤ l.length ∧ (∀ i (hi : i < N) (h : i < l.length), cmpA l[i].1 l[i].2 x y < 0) ∧ (∀ h : N < l.length, ¬ cmpA l[N].1 l[N].2 x y < 0) := by
          clear hl hlen
          induction l with
          | nil => exact ⟨0, Nat.le_refl _, fun i hi => absurd hi (by omega), fun h => by simp at h⟩
          | cons z l ih =>
            by_cases c : cmpA z.1 z.2 x y < 0
            · obtain ⟨N, g1, g2, g3⟩ := ih
              refine ⟨N + 1, by simpa using g1, fun i hi h => ?_, fun h => by have := g3 (by simpa using h); simpa using this⟩
              cases i with
              | zero => simpa using c
              | succ i => have := g2 i (by omega) (by simpa using h); simpa using this
            · exact ⟨0, Nat.zero_le _, fun i hi => absurd hi (by omega), fun h => by simpa using c⟩
        have hins := insA_at (a := (x, y)) hN (fun i hi => hNf i hi (by omega)) hNn
        refine W.cut True [(0, .rd 2 (adRows l)), (3, .ptr 0 0), (5, .int .i64 N)] [.box 99 [.int .u64 x, .int .u64 y]] 46 ?_ ?_
        · refine W.block (W.for (fun k => True) (fun k => [(0, .rd 2 (adRows l)), (3, .ptr 0 0), (5, .int .i64 k)]) (fun _ => [.box 99 [.int .u64 x, .int .u64 y]]) 46 N trivial ?_ ?_)
          · simp [adRows]
          · intro k hk _
            refine W.of_WE hT mixed M_f111 _ (by kernel_rfl) ?_
            have hw1 : IntKind.i64.wrap ((k : Int) + 1) = k + 1 := wr_i64 (by omega) (by omega)
            by_cases hlt : k < l.length
            · by_cases hkN : k < N
              · have c := hNf k hkN hlt
                simp [hlt, adRow, SCompare, c, hw1]
                omega
              · have : k = N := by omega
                subst this
                have c := hNn hlt
                simp [hlt, adRow, SCompare, c]
            · have : k = N := by omega
              subst this
              simp [hlt]
        · intro _
          refine W.cut (¬ ∃ h : N < l.length, l[N] = (x, y)) [(0, .rd 2 (adRows l)), (3, .ptr 0 0), (5, .int .i64 N)] [.box 99 [.int .u64 x, .int .u64 y]] 46 ?_ ?_
          · refine W.of_WE hT mixed M_f111 _ (by kernel_rfl) ?_
            by_cases hlt : N < l.length
            · by_cases e : l[N] = (x, y)
              · rw [if_pos ⟨hlt, e⟩] at hins
                have e1 : l[N].1 = x := by rw [e]
                have e2 : l[N].2 = y := by rw [e]
                simp [Try.f111, hlt, adRow, e1, e2, hins]
              · have e' : (decide (l[N].1 = x) && decide (l[N].2 = y)) = false := by
                  rw [Bool.eq_false_iff]
                  intro h
                  simp only [Bool.and_eq_true, decide_eq_true_eq] at h
                  exact e (Prod.ext h.1 h.2)
                simp [Try.f111, hlt, adRow, e', e]
            · simp [Try.f111, hlt]
          · intro hne
            rw [if_neg hne] at hins
            refine W.seqE hT mixed M_f111 (by kernel_rfl) ?_
            simp [hN]
            refine ⟨by omega, by omega, by omega, by omega, by omega, by omega, ?_⟩
            have hrows : List.take N (adRows l) ++ [V.int IntKind.u64 x, V.int IntKind.u64 y] :: List.take (l.length - N) (List.drop N (adRows l)) = adRows (insA l (x, y)) := by
              have e1 : List.take (l.length - N) (List.drop N (adRows l)) = List.drop N (adRows l) := List.take_of_length_le (by simp)
              rw [e1, adRows_take, adRows_drop, hins]
              simp [adRows, adRow]
            rw [hrows]
            refine W.wk (Wk.freeze 89 (.sl 2 99 (adRows (insA l (x, y)))) (by simp) (by simp)) ?_
            refine W.of_WE hT mixed M_f111 _ (by kernel_rfl) ?_
            simp [Try.f111]
      · cases hh
    · cases hh
  · cases hh
def SInL : List V → Option Res
  | [.rd 4 rows, .agg [.int .u64 x, .int .u64 y]] => match spsOf rows with
    | some l => if l.length ≤ 1000000 then some ⟨.bool (l.any fun s => inS s.h s.l s.h' s.l' x y), []⟩ else none
    | none => none
  | _ => none
def inLA (l : List SP) (p : Int × Int) : Bool := l.any fun s => inS s.h s.l s.h' s.l' p.1 p.2
def M_f106 : Md := fun i => if i = 4 then some #[0, 0, 3, 7, 0, 31] else some #[]
@[simp] theorem M_f106_eq {i : Nat} : M_f106 i = (if i = 4 then some #[0, 0, 3, 7, 0, 31] else some #[]) := rfl
theorem runs_ref03_in : ∀ args r, SInL args = some r → Runs Try.prog 106 args r := by
  intro args r hh
  unfold SInL at hh
  split at hh
  · rename_i rows x y
    split at hh
    · rename_i l hl
      split at hh
      · rename_i hlen
        cases hh
        have h1 := parse_eq spOf_eq hl
        subst h1
        have hT : (T0.add 112 SInS).ok Try.prog := Tab.add_ok (T0_ok _) runs_ref02_In
        refine Runs.of_body Try.func106 (by decide) rfl (by simp [Try.f106]) ?_
        refine W.seqE hT mixed M_f106 (by kernel_rfl) ?_
        simp [Try.f106]
        refine W.cut (∀ i (h : i < l.length), inS l[i].h l[i].l l[i].h' l[i].l' x y = false) [] [] 18 ?_ ?_
        · refine W.seqE hT mixed M_f106 (by kernel_rfl) ?_
          simp [Try.f106]
          refine W.block (W.for (fun k => ∀ i (hi : i < k) (h : i < l.length), inS l[i].h l[i].l l[i].h' l[i].l' x y = false) (fun k => [(0, .rd 4 (sRows l)), (3, .ptr 0 0), (5, .int .i64 k)]) (fun _ => [.box 99 [.int .u64 x, .int .u64 y]]) 18 l.length (fun i hi => absurd hi (by omega)) ?_ ?_)
          · simp [sRows]
          · intro k hk hJ
            refine W.of_WE hT mixed M_f106 _ (by kernel_rfl) ?_
            by_cases hlt : k < l.length
            · have hw1 : IntKind.i64.wrap ((k : Int) + 1) = k + 1 := wr_i64 (by omega) (by omega)
              cases e : inS l[k].h l[k].l l[k].h' l[k].l' x y
              · have hJ' : ∀ i (hi : i < k + 1) (h : i < l.length), inS l[i].h l[i].l l[i].h' l[i].l' x y = false := by
                  intro i hi h
                  rcases Nat.lt_or_ge i k with g | g
                  · exact hJ i g h
                  · have : i = k := by omega
                    subst this; exact e
                simp [hlt, SP.row, SInS, e, hw1]
                exact hJ'
              · simp [hlt, SP.row, SInS, e]
                exact ⟨l[k], List.getElem_mem hlt, e⟩
            · have : k = l.length := by omega
              subst this
              simp
              exact fun i hi => hJ i hi hi
        · intro hn
          refine W.of_WE hT mixed M_f106 _ (by kernel_rfl) ?_
          simp [Try.f106]
          intro s hs
          obtain ⟨i, hi, rfl⟩ := List.mem_iff_getElem.1 hs
          exact hn i hi
      · cases hh
    · cases hh
  · cases hh
def SHold : List V → Option Res
  | [.int .i64 d, .bool a, .bool b] => some ⟨.bool (hold d a b), []⟩
  | _ => none
theorem runs_ref03_holds : ∀ args r, SHold args = some r → Runs Try.prog 105 args r := by
  intro args r hh
  unfold SHold at hh
  split at hh
  · rename_i d a b
    cases hh
    refine Runs.of_body Try.func105 (by decide) rfl (by simp [Try.f105]) ?_
    refine W.of_WE (T0_ok _) mixed M0 _ (by kernel_rfl) ?_
    by_cases d0 : d = 0
    · cases a <;> simp [Try.f105, hold, d0]
    · by_cases d1 : d = 1
      · cases a <;> simp [Try.f105, hold, d0, d1]
      · cases a <;> simp [Try.f105, hold, d0, d1]
  · cases hh

end Go.Proofs.Ytkcmgjagjbiinaa.AL
namespace Go.Proofs.Ytkcmgjagjbiinaa.AL
open Go
attribute [local simp] qf cv qbin ibin sbin qun retPost rvOk ctV ctPost marksOk retV resAll resOf V.lt ltL V.ren renL V.exp V.exp1 cleanL V.clean closedL V.closed V.cells V.one V.tree
  loadV cellsAt isNC nilQ isSlD isIfD slNew ownRows ownCells V.isOwn slStore srcO qlook mlook mget mstr zval qnone qmake mput lmap isAggD placesOf fillV putCells lstore bound seqParts V.sh shL Blk.sh newV V.ok peqs peq srcRows qbytes byteSl appOk mmV mmR hidE V.fz fzL Blk.fz fzOk and_assoc
attribute [-simp] Int.not_le Int.not_lt Nat.not_le Nat.not_lt
theorem insA_len : ∀ {l : List (Int × Int)} {a : Int × Int}, (insA l a).length ≤ l.length + 1
  | [], a => by simp [insA]
  | x :: l, a => by
    have := insA_len (l := l) (a := a)
    unfold insA
    split
    · simp; omega
    · split <;> simp
theorem insA_mem : ∀ {l : List (Int × Int)} {a p : Int × Int}, p ∈ insA l a ↔ p = a ∨ p ∈ l
  | [], a, p => by simp [insA]
  | x :: l, a, p => by
    have ih := insA_mem (l := l) (a := a) (p := p)
    unfold insA
    split
    · rw [List.mem_cons, ih, List.mem_cons]
      constructor
      · rintro (h | h | h)
        · exact .inr (.inl h)
        · exact .inl h
        · exact .inr (.inr h)
      · rintro (h | h | h)
        · exact .inr (.inl h)
        · exact .inl h
        · exact .inr (.inr h)
    · split
      · rename_i h1 h2
        subst h2
        simp
      · simp
def edgStep (f : Int) (out : List (Int × Int)) (s : SP) : List (Int × Int) :=
  if (nextA f s.h' s.l').2.2 = true then insA (insA out (s.h, s.l)) ((nextA f s.h' s.l').1, (nextA f s.h' s.l').2.1) else insA out (s.h, s.l)
def edgL (f : Int) (l : List SP) : List (Int × Int) := l.foldl (edgStep f) [(0, 0)]
theorem edgL_snoc {f : Int} {l : List SP} {k : Nat} (h : k < l.length) : edgL f (l.take (k + 1)) = edgStep f (edgL f (l.take k)) l[k] := by
  unfold edgL
  rw [take_snoc' l k h, List.foldl_append]; rfl
theorem edgStep_len {f : Int} {out : List (Int × Int)} {s : SP} : (edgStep f out s).length ≤ out.length + 2 := by
  unfold edgStep
  have h1 := insA_len (l := out) (a := (s.h, s.l))
  split
  · have h2 := insA_len (l := insA out (s.h, s.l)) (a := ((nextA f s.h' s.l').1, (nextA f s.h' s.l').2.1))
    omega
  · omega
theorem edgL_len {f : Int} {l : List SP} : ∀ k, k ≤ l.length → (edgL f (l.take k)).length ≤ 1 + 2 * k
  | 0, _ => by simp [edgL]
  | k + 1, h => by
    rw [edgL_snoc (by omega)]
    have := edgStep_len (f := f) (out := edgL f (l.take k)) (s := l[k]'(by omega))
    have := edgL_len (f := f) (l := l) k (by omega)
    omega
def SEdg : List V → Option Res
  | [.int .u8 f, .rd 4 rows] => match spsOf rows with
    | some l => if (∀ s ∈ l, inSP s) ∧ l.length ≤ 100000 then some ⟨.rd 2 (adRows (edgL f l)), []⟩ else none
    | none => none
  | _ => none
theorem ins_at {l : List (Int × Int)} {x y : Int} (h : l.length ≤ 1000000) : SIns [.rd 2 (adRows l), .agg [.int .u64 x, .int .u64 y]] = some ⟨.rd 2 (adRows (insA l (x, y))), []⟩ := by
  simp only [SIns, adRows_parse]
  rw [if_pos h]
def M_f104 : Md := fun i => some #[]
@[simp] theorem M_f104_eq {i : Nat} : M_f104 i = (some #[]) := rfl
theorem runs_ref03_edges : ∀ args r, SEdg args = some r → Runs Try.prog 104 args r := by
  intro args r hh
  unfold SEdg at hh
  split at hh
  · rename_i f rows
    split at hh
    · rename_i l hl
      split at hh
      · rename_i hin
        obtain ⟨hin, hlen⟩ := hin
        cases hh
        have h1 := parse_eq spOf_eq hl
        subst h1
        have hT : ((T0.add 72 SNext).add 111 SIns).ok Try.prog := Tab.add_ok (Tab.add_ok (T0_ok _) runs_ref02_Next) runs_ref03_insert
        refine Runs.of_body Try.func104 (by decide) rfl (by simp [Try.f104]) ?_
        refine W.seqE hT mixed M_f104 (by kernel_rfl) ?_
        simp [Try.f104]
        refine W.seqE hT mixed M_f104 (by kernel_rfl) ?_
        simp
        refine W.wk (Wk.freeze 16 (.sl 2 99 [[.int .u64 0, .int .u64 0]]) (by simp) (by simp)) ?_
        refine W.cut True [(5, .rd 2 (adRows (edgL f l)))] [] 39 ?_ ?_
        · refine W.seqE hT mixed M_f104 (by kernel_rfl) ?_
          simp
          refine W.block (W.for (fun _ => True) (fun k => [(0, .int .u8 f), (1, .rd 4 (sRows l)), (5, .rd 2 (adRows (edgL f (l.take k)))), (6, .int .i64 k)]) (fun _ => []) 39 l.length trivial ?_ ?_)
          · simp [sRows, edgL, adRows, adRow]
          · intro k hk _
            refine W.of_WE hT mixed M_f104 _ (by kernel_rfl) ?_
            by_cases hlt : k < l.length
            · have hw1 : IntKind.i64.wrap ((k : Int) + 1) = k + 1 := wr_i64 (by omega) (by omega)
              have hle := edgL_len (f := f) (l := l) k hk
              have hsn := edgL_snoc (f := f) hlt
              have hs := hin l[k] (List.getElem_mem hlt)
              obtain ⟨S, hS⟩ : ∃ S, S = l[k] := ⟨_, rfl⟩
              rw [← hS] at hsn hs
              have hsA : inA S.h' S.l' := ⟨hs.2.2.2.2.1, hs.2.2.2.2.2.1, hs.2.2.2.2.2.2.1, hs.2.2.2.2.2.2.2⟩
              have hnx : SNext [.int .u8 f, .agg [.int .u64 S.h', .int .u64 S.l']] = some ⟨.tup [.agg [.int .u64 (nextA f S.h' S.l').1, .int .u64 (nextA f S.h' S.l').2.1], .bool (nextA f S.h' S.l').2.2], []⟩ := by
                simp only [SNext]; rw [if_pos hsA]
              rw [hsn]
              generalize edgL f (l.take k) = O at *
              unfold edgStep
              have i1 := ins_at (l := O) (x := S.h) (y := S.l) (by omega)
              have hl1 := insA_len (l := O) (a := (S.h, S.l))
              generalize nextA f S.h' S.l' = n at *
              have i2 := ins_at (l := insA O (S.h, S.l)) (x := n.1) (y := n.2.1) (by omega)
              cases n1 : n.2.2
              · simp [hlt, ← hS, SP.row, i1, hnx, n1, hw1]
              · simp [hlt, ← hS, SP.row, i1, i2, hnx, n1, hw1]
            · have : k = l.length := by omega
              subst this
              simp
        · intro _
          refine W.of_WE hT mixed M_f104 _ (by kernel_rfl) ?_
          simp [Try.f104]
      · cases hh
    · cases hh
  · cases hh

end Go.Proofs.Ytkcmgjagjbiinaa.AL
namespace Go.Proofs.Ytkcmgjagjbiinaa.AL
open Go
attribute [local simp] qf cv qbin ibin sbin qun retPost rvOk ctV ctPost marksOk retV resAll resOf V.lt ltL V.ren renL V.exp V.exp1 cleanL V.clean closedL V.closed V.cells V.one V.tree
  loadV cellsAt isNC nilQ isSlD isIfD slNew ownRows ownCells V.isOwn slStore srcO qlook mlook mget mstr zval qnone qmake mput lmap isAggD placesOf fillV putCells lstore bound seqParts V.sh shL Blk.sh newV V.ok peqs peq srcRows qbytes byteSl appOk mmV mmR hidE V.fz fzL Blk.fz fzOk and_assoc
attribute [-simp] Int.not_le Int.not_lt Nat.not_le Nat.not_lt
/-- What is known amid an operation on two lists: is the last run open, what has come out. -/
def doneTo (f : Int) (E : List (Int × Int)) (k : Nat) : Int × Int :=
  if k + 1 < E.length then ((prevA (E.getD (k + 1) (0, 0)).1 (E.getD (k + 1) (0, 0)).2).1, (prevA (E.getD (k + 1) (0, 0)).1 (E.getD (k + 1) (0, 0)).2).2.1) else lastA 0 0 (widN f)
def setTo (out : List SP) (t : Int × Int) : List SP := out.set (out.length - 1) ⟨(out.getD (out.length - 1) SP0).h, (out.getD (out.length - 1) SP0).l, t.1, t.2⟩
def doneIs (d : Int) (a b : List SP) (E : List (Int × Int)) (k : Nat) : Bool := hold d (inLA a (E.getD k (0, 0))) (inLA b (E.getD k (0, 0)))
def dstA (d f : Int) (a b : List SP) (E : List (Int × Int)) : Nat → Bool × List SP
  | 0 => (false, [])
  | k + 1 => (doneIs d a b E k,
      if doneIs d a b E k = true then (if (dstA d f a b E k).1 = true then setTo (dstA d f a b E k).2 (doneTo f E k) else (dstA d f a b E k).2 ++ [⟨(E.getD k (0, 0)).1, (E.getD k (0, 0)).2, (doneTo f E k).1, (doneTo f E k).2⟩]) else (dstA d f a b E k).2)
def doneL (d f : Int) (a b : List SP) : List SP := (dstA d f a b (edgL f (a ++ b)) (edgL f (a ++ b)).length).2
theorem dstA_len (d f : Int) (a b : List SP) (E : List (Int × Int)) : ∀ k, (dstA d f a b E k).2.length ≤ k
  | 0 => by simp [dstA]
  | k + 1 => by
    have := dstA_len d f a b E k
    simp only [dstA]
    split
    · split
      · simp [setTo]; omega
      · simp; omega
    · omega
theorem dstA_ne (d f : Int) (a b : List SP) (E : List (Int × Int)) : ∀ k, (dstA d f a b E k).1 = true → (dstA d f a b E k).2 ≠ []
  | 0, h => by simp [dstA] at h
  | k + 1, h => by
    simp only [dstA] at h ⊢
    rw [if_pos h]
    split
    · rename_i h1
      have := dstA_ne d f a b E k h1
      intro h2
      apply this
      have h3 := congrArg List.length h2
      simp [setTo] at h3
      exact h3
    · simp
def SDone : List V → Option Res
  | [.int .i64 d, .int .u8 f, .rd 4 ra, .rd 4 rb] => match spsOf ra, spsOf rb with
    | some a, some b => if (∀ s ∈ a, inSP s) ∧ (∀ s ∈ b, inSP s) ∧ a.length ≤ 1000 ∧ b.length ≤ 1000 ∧ (f = 4 ∨ f = 6) then some ⟨.own 0, [.sl 4 101 (sRows (doneL d f a b))]⟩ else none
    | _, _ => none
  | _ => none
theorem sRows_app (a b : List SP) : sRows a ++ sRows b = sRows (a ++ b) := by simp [sRows]
theorem inL_at {l : List SP} {p : Int × Int} (h : l.length ≤ 1000000) : SInL [.rd 4 (sRows l), .agg [.int .u64 p.1, .int .u64 p.2]] = some ⟨.bool (inLA l p), []⟩ := by
  simp only [SInL, sRows_parse]
  rw [if_pos h]; rfl
theorem edg_at {f : Int} {l : List SP} (h : ∀ s ∈ l, inSP s) (hl : l.length ≤ 100000) : SEdg [.int .u8 f, .rd 4 (sRows l)] = some ⟨.rd 2 (adRows (edgL f l)), []⟩ := by
  simp only [SEdg, sRows_parse]
  rw [if_pos ⟨h, hl⟩]
theorem edgL_in {f : Int} {l : List SP} (h : ∀ s ∈ l, inSP s) : ∀ k, k ≤ l.length → ∀ p ∈ edgL f (l.take k), inA p.1 p.2
  | 0, _, p, hp => by simp [edgL] at hp; subst hp; exact ⟨by omega, by omega, by omega, by omega⟩
  | k + 1, hk, p, hp => by
    have ih := edgL_in (f := f) h k (by omega)
    have hkl : k < l.length := by omega
    have hs := h l[k] (List.getElem_mem hkl)
    rw [edgL_snoc hkl] at hp
    generalize l[k] = s at *
    have hn : inA (nextA f s.h' s.l').1 (nextA f s.h' s.l').2.1 := by
      unfold nextA
      simp only
      split
      · unfold addR
        simp only
        exact ⟨by omega, by omega, by omega, by omega⟩
      · simp only
        exact ⟨by omega, by omega, by omega, by omega⟩
    unfold edgStep at hp
    split at hp
    · rcases insA_mem.1 hp with h1 | h1
      · subst h1; exact hn
      · rcases insA_mem.1 h1 with h1 | h1
        · subst h1; exact ⟨hs.1, hs.2.1, hs.2.2.1, hs.2.2.2.1⟩
        · exact ih p h1
    · rcases insA_mem.1 hp with h1 | h1
      · subst h1; exact ⟨hs.1, hs.2.1, hs.2.2.1, hs.2.2.2.1⟩
      · exact ih p h1
theorem setTo_rows {out : List SP} (h : out ≠ []) (hl : out.length ≤ 100000) (t : Int × Int) : 0 ≤ IntKind.i64.wrap ((out.length : Int) - 1) ∧ IntKind.i64.wrap ((out.length : Int) - 1) < out.length ∧ (IntKind.i64.wrap ((out.length : Int) - 1)).toNat < out.length ∧
    (sRows out).set (IntKind.i64.wrap ((out.length : Int) - 1)).toNat ((((sRows out)[(IntKind.i64.wrap ((out.length : Int) - 1)).toNat]?.getD []).set 2 (.int .u64 t.1)).set 3 (.int .u64 t.2)) = sRows (setTo out t) := by
  obtain ⟨m, hm⟩ : ∃ m, out.length = m + 1 := ⟨out.length - 1, by have := List.length_pos_iff.2 h; omega⟩
  have hw : IntKind.i64.wrap ((out.length : Int) - 1) = (m : Int) := by rw [wr_i64 (by omega) (by omega)]; omega
  rw [hw, Int.toNat_natCast]
  refine ⟨by omega, by omega, by omega, ?_⟩
  have hlt : m < out.length := by omega
  unfold setTo
  rw [show out.length - 1 = m by omega]
  unfold sRows
  rw [List.map_set]
  congr 1
  simp [hlt, SP.row]
def M_f91 : Md := fun i => if i = 7 then some #[0, 0, 0, 0, 12, 28, 62, 0, 0, 0, 768, 1792, 4094, 8191, 16383] else if i = 14 then some #[0, 0, 0, 6, 14, 0, 62, 126, 255, 511] else some #[]
@[simp] theorem M_f91_eq {i : Nat} : M_f91 i = (if i = 7 then some #[0, 0, 0, 0, 12, 28, 62, 0, 0, 0, 768, 1792, 4094, 8191, 16383] else if i = 14 then some #[0, 0, 0, 6, 14, 0, 62, 126, 255, 511] else some #[]) := rfl
theorem runs_ref03_done : ∀ args r, SDone args = some r → Runs Try.prog 91 args r := by
  intro args r hh
  unfold SDone at hh
  split at hh
  · rename_i d f ra rb
    split at hh
    · rename_i a b ha hb
      split at hh
      · rename_i hin
        obtain ⟨hina, hinb, hla, hlb, hf⟩ := hin
        cases hh
        have h1 := parse_eq spOf_eq ha
        have h2 := parse_eq spOf_eq hb
        subst h1 h2
        show Runs _ _ [.int .i64 d, .int .u8 f, .rd 4 (sRows a), .rd 4 (sRows b)] _
        have hab : ∀ s ∈ a ++ b, inSP s := fun s hs => by
          rcases List.mem_append.1 hs with h | h
          · exact hina s h
          · exact hinb s h
        have hedg := edg_at (f := f) hab (by simp; omega)
        have hEin := edgL_in (f := f) hab (a ++ b).length (Nat.le_refl _)
        have hElen := edgL_len (f := f) (l := a ++ b) (a ++ b).length (Nat.le_refl _)
        rw [List.take_length] at hEin hElen
        have hElen2 : (edgL f (a ++ b)).length ≤ 4001 := by rw [List.length_append] at hElen; omega
        have hT : (((((T0.add 106 SInL).add 104 SEdg).add 105 SHold).add 107 SLastR).add 108 SPrev).ok Try.prog :=
          Tab.add_ok (Tab.add_ok (Tab.add_ok (Tab.add_ok (Tab.add_ok (T0_ok _) runs_ref03_in) runs_ref03_edges) runs_ref03_holds) runs_ref02_Last) runs_ref02_Prev
        refine Runs.of_body Try.func91 (by decide) rfl (by simp [Try.f91]) ?_
        refine W.seqE hT mixed M_f91 (by kernel_rfl) ?_
        simp [Try.f91]
        refine W.cut True [(0, .int .i64 d), (1, .int .u8 f), (2, .rd 4 (sRows a)), (3, .rd 4 (sRows b)), (9, .rd 2 (adRows (edgL f (a ++ b))))] [] 86 ?_ ?_
        · refine W.region_split hT 6 ?_
          simp
          refine ⟨by omega, by omega, by omega, by omega, ?_⟩
          refine ⟨_, Wk.freeze 48 (.sl 4 101 (sRows a ++ sRows b)) (by simp) (by simp), ?_⟩
          simp [sRows_app, hedg]
        · intro _
          obtain ⟨E, hE⟩ : ∃ E, E = edgL f (a ++ b) := ⟨_, rfl⟩
          unfold doneL
          rw [← hE] at hEin hElen2 ⊢
          refine W.seqE hT mixed M_f91 (by kernel_rfl) ?_
          simp
          refine W.wk (Wk.adopt 10 4 101 (by omega) (by simp)) ?_
          refine W.seqE hT mixed M_f91 (by kernel_rfl) ?_
          simp
          refine W.cut True [(10, .own 0)] [.sl 4 101 (sRows (dstA d f a b E E.length).2)] 86 ?_ ?_
          · refine W.seqE hT mixed M_f91 (by kernel_rfl) ?_
            simp
            refine W.block (W.for (fun _ => True) (fun k => [(0, .int .i64 d), (1, .int .u8 f), (2, .rd 4 (sRows a)), (3, .rd 4 (sRows b)), (9, .rd 2 (adRows E)), (10, .own 0), (11, .bool (dstA d f a b E k).1), (12, .int .i64 k)]) (fun k => [.sl 4 101 (sRows (dstA d f a b E k).2)]) 86 E.length trivial ?_ ?_)
            · simp [dstA, sRows, adRows]
            · intro k hk _
              refine W.of_WE hT mixed M_f91 _ (by kernel_rfl) ?_
              by_cases hlt : k < E.length
              · have hw1 : IntKind.i64.wrap ((k : Int) + 1) = k + 1 := wr_i64 (by omega) (by omega)
                have hp1 : (0 : Int) ≤ (k : Int) + 1 := by omega
                have hp2 : ((k : Int) + 1).toNat = k + 1 := by omega
                have i1 := inL_at (l := a) (p := E[k]) (by omega)
                have i2 := inL_at (l := b) (p := E[k]) (by omega)
                have hg : E.getD k (0, 0) = E[k] := by simp [hlt]
                have hlast : SLastR [.agg [.int .u8 f, .int .u64 0, .int .u64 0, .int .i64 0]] = some ⟨.agg [.int .u64 (lastA 0 0 (widN f)).1, .int .u64 (lastA 0 0 (widN f)).2], []⟩ := by
                  simp only [SLastR]
                  rw [if_pos ⟨by decide, by rcases hf with rfl | rfl <;> decide, by omega, by omega⟩]
                  rfl
                have hol := dstA_len d f a b E k
                have hne := dstA_ne d f a b E k
                have hst : dstA d f a b E (k + 1) = (doneIs d a b E k, if doneIs d a b E k = true then (if (dstA d f a b E k).1 = true then setTo (dstA d f a b E k).2 (doneTo f E k) else (dstA d f a b E k).2 ++ [⟨(E.getD k (0, 0)).1, (E.getD k (0, 0)).2, (doneTo f E k).1, (doneTo f E k).2⟩]) else (dstA d f a b E k).2) := rfl
                have his : doneIs d a b E k = hold d (inLA a E[k]) (inLA b E[k]) := by unfold doneIs; rw [hg]
                rw [hst, hg, his]
                generalize dstA d f a b E k = D at *
                generalize inLA a E[k] = ia at *
                generalize inLA b E[k] = ib at *
                obtain ⟨op, out⟩ := D
                simp only at hol hne ⊢
                have hsn := sRows_snoc out ⟨E[k].1, E[k].2, (doneTo f E k).1, (doneTo f E k).2⟩
                simp only [SP.row] at hsn
                by_cases hk1 : k + 1 < E.length
                · have hk1' : (k : Int) + 1 < E.length := by omega
                  have hq := hEin E[k + 1] (List.getElem_mem hk1)
                  have hpr : SPrev [.agg [.int .u64 E[k + 1].1, .int .u64 E[k + 1].2]] = some ⟨.tup [.agg [.int .u64 (prevA E[k + 1].1 E[k + 1].2).1, .int .u64 (prevA E[k + 1].1 E[k + 1].2).2.1], .bool (prevA E[k + 1].1 E[k + 1].2).2.2], []⟩ := by
                    simp only [SPrev]; rw [if_pos hq]
                  have hto : doneTo f E k = ((prevA E[k + 1].1 E[k + 1].2).1, (prevA E[k + 1].1 E[k + 1].2).2.1) := by
                    unfold doneTo; rw [if_pos hk1]; simp [hk1]
                  rw [hto] at hsn ⊢
                  cases hh : hold d ia ib
                  · simp [hlt, adRow, i1, i2, SHold, hh, hlast, hw1, hp1, hp2, hk1, hk1', hpr]
                  · cases op
                    · simp [hlt, adRow, i1, i2, SHold, hh, hlast, hw1, hp1, hp2, hk1, hk1', hpr]
                      exact ⟨by omega, by omega, hsn⟩
                    · simp [hlt, adRow, i1, i2, SHold, hh, hlast, hw1, hp1, hp2, hk1, hk1', hpr]
                      exact setTo_rows (hne rfl) (by omega) ((prevA E[k + 1].1 E[k + 1].2).1, (prevA E[k + 1].1 E[k + 1].2).2.1)
                · have hk1' : ¬ (k : Int) + 1 < E.length := by omega
                  have hto : doneTo f E k = lastA 0 0 (widN f) := by unfold doneTo; rw [if_neg hk1]
                  rw [hto] at hsn ⊢
                  cases hh : hold d ia ib
                  · simp [hlt, adRow, i1, i2, SHold, hh, hlast, hw1, hk1, hk1']
                  · cases op
                    · simp [hlt, adRow, i1, i2, SHold, hh, hlast, hw1, hk1, hk1']
                      exact ⟨by omega, by omega, hsn⟩
                    · simp [hlt, adRow, i1, i2, SHold, hh, hlast, hw1, hk1, hk1']
                      exact setTo_rows (hne rfl) (by omega) _
              · have : k = E.length := by omega
                subst this
                simp
          · intro _
            refine W.of_WE hT mixed M_f91 _ (by kernel_rfl) ?_
            simp [Try.f91]
      · cases hh
    · cases hh
  · cases hh

end Go.Proofs.Ytkcmgjagjbiinaa.AL
namespace Go.Proofs.Ytkcmgjagjbiinaa.AL
open Go
attribute [local simp] qf cv qbin ibin sbin qun retPost rvOk ctV ctPost marksOk retV resAll resOf V.lt ltL V.ren renL V.exp V.exp1 cleanL V.clean closedL V.closed V.cells V.one V.tree
  loadV cellsAt isNC nilQ isSlD isIfD slNew ownRows ownCells V.isOwn slStore srcO qlook mlook mget mstr zval qnone qmake mput lmap isAggD placesOf fillV putCells lstore bound seqParts V.sh shL Blk.sh newV V.ok peqs peq srcRows qbytes byteSl appOk mmV mmR hidE V.fz fzL Blk.fz fzOk and_assoc
attribute [-simp] Int.not_le Int.not_lt Nat.not_le Nat.not_lt
/-- Nothing of b outside a, as the reference asks. -/
def subD (f : Int) (a b : List SP) : Bool := (doneL 2 f b a).isEmpty
def contD (a b : RS) : Bool := subD 4 a.l4 b.l4 && subD 6 a.l6 b.l6 && subD 4 (a.la.map wideS) (b.la.map wideS)
theorem contD_iff {a b : RS} : contD a b = true ↔ ∀ k, k < 3 → subD (famK k) (a.lst k) (b.lst k) = true := by
  unfold contD
  rw [Bool.and_eq_true, Bool.and_eq_true]
  constructor
  · rintro ⟨⟨h0, h1⟩, h2⟩ k hk
    match k, hk with
    | 0, _ => exact h0
    | 1, _ => exact h1
    | 2, _ => exact h2
  · intro h
    obtain ⟨h0, h1, h2⟩ := forall3 h
    exact ⟨⟨h0, h1⟩, h2⟩
theorem contD_F {a b : RS} {k : Nat} (hk : k < 3) (h : subD (famK k) (a.lst k) (b.lst k) = false) : contD a b = false := by
  rw [Bool.eq_false_iff]
  intro hc
  have := contD_iff.1 hc k hk
  rw [h] at this; cases this
def SContD : List V → Option Res
  | [.agg ca, .agg cb] => match rsOf ca, rsOf cb with
    | some a, some b => if inRS a ∧ inRS b ∧ lenRS 1000000 a ∧ lenRS 1000000 b then
        (if orE2 (chkR a) (chkR b) ≠ 0 then some ⟨.tup [.bool false, .int .i64 (orE2 (chkR a) (chkR b))], []⟩ else some ⟨.tup [.bool (contD a b), .int .i64 0], []⟩) else none
    | _, _ => none
  | _ => none
theorem both_at {a b : RS} (ia : inRS a) (ib : inRS b) (la : lenRS 1000000 a) (lb : lenRS 1000000 b) : SBoth [.agg a.cells, .agg b.cells] = some ⟨.int .i64 (orE2 (chkR a) (chkR b)), []⟩ := by
  simp only [SBoth, rsOf_cells]
  rw [if_pos ⟨ia, ib, la, lb⟩]
theorem famK_or (k : Nat) : famK k = 4 ∨ famK k = 6 := by
  match k with
  | 0 => exact .inl rfl
  | 1 => exact .inr rfl
  | k + 2 => exact .inl rfl
theorem done_at {d f : Int} {a b : List SP} (ha : ∀ s ∈ a, inSP s) (hb : ∀ s ∈ b, inSP s) (la : a.length ≤ 1000) (lb : b.length ≤ 1000) (hf : f = 4 ∨ f = 6) : SDone [.int .i64 d, .int .u8 f, .rd 4 (sRows a), .rd 4 (sRows b)] = some ⟨.own 0, [.sl 4 101 (sRows (doneL d f a b))]⟩ := by
  simp only [SDone, sRows_parse]
  rw [if_pos ⟨ha, hb, la, lb, hf⟩]
theorem subD_len {f : Int} {a b : List SP} : subD f a b = true ↔ ¬ (0 < (doneL 2 f b a).length) := by
  unfold subD
  rw [List.isEmpty_iff_length_eq_zero]
  omega
def M_f74 : Md := fun i => if i = 8 then some #[0, 0, 3, 7, 0, 0, 48, 112, 0, 0, 768, 1792, 4095, 8191, 16383] else some #[]
@[simp] theorem M_f74_eq {i : Nat} : M_f74 i = (if i = 8 then some #[0, 0, 3, 7, 0, 0, 48, 112, 0, 0, 768, 1792, 4095, 8191, 16383] else some #[]) := rfl
theorem runs_ref03_Contains : ∀ args r, SContD args = some r → Runs Try.prog 74 args r := by
  intro args r hh
  unfold SContD at hh
  split at hh
  · rename_i ca cb
    split at hh
    · rename_i a b ha hb
      split at hh
      · rename_i hin
        obtain ⟨ina, inb, la, lb⟩ := hin
        have h1 := rsOf_eq ha
        have h2 := rsOf_eq hb
        subst h1 h2
        have cab := both_at ina inb la lb
        have sa := lists_at ina la
        have sb := lists_at inb lb
        simp only [RS.cells] at cab sa sb
        have hT : (((T0.add 76 SBoth).add 38 SLists).add 91 SDone).ok Try.prog := Tab.add_ok (Tab.add_ok (Tab.add_ok (T0_ok _) runs_ref03_Both) runs_ref03_lists) runs_ref03_done
        split at hh
        · rename_i he
          cases hh
          refine Runs.of_body Try.func74 (by decide) rfl (by simp [Try.f74]) ?_
          refine W.of_WE hT mixed M_f74 _ (by kernel_rfl) ?_
          simp [Try.f74, RS.cells, cab, he]
        · rename_i he
          cases hh
          have he' : orE2 (chkR a) (chkR b) = 0 := by omega
          have hca : chkR a = 0 := by unfold orE2 at he'; split at he' <;> omega
          have hcb : chkR b = 0 := by unfold orE2 at he'; rw [if_pos hca] at he'; exact he'
          have l2a := chkR_len hca
          have l2b := chkR_len hcb
          rw [he'] at cab
          refine Runs.of_body Try.func74 (by decide) rfl (by simp [Try.f74]) ?_
          refine W.seqE hT mixed M_f74 (by kernel_rfl) ?_
          simp [Try.f74, RS.cells]
          refine W.cut True [(2, .ptr 0 0), (3, .ptr 1 0)] [.box 26 a.cells, .box 26 b.cells] 47 ?_ ?_
          · refine W.of_WE hT mixed M_f74 _ (by kernel_rfl) ?_
            simp [Try.f74, RS.cells, cab]
          · intro _
            refine W.seqE hT mixed M_f74 (by kernel_rfl) ?_
            simp [Try.f74, RS.cells, sa]
            refine W.seqE hT mixed M_f74 (by kernel_rfl) ?_
            simp [Try.f74, RS.cells, sb]
            refine W.cut (contD a b = true) [] [] 47 ?_ ?_
            · refine W.seqE hT mixed M_f74 (by kernel_rfl) ?_
              simp [Try.f74]
              refine W.block (W.for (fun k => ∀ j, j < k → subD (famK j) (a.lst j) (b.lst j) = true) (fun k => [(6, .rd 1 (lstRows a)), (7, .rd 1 famRows), (8, .rd 1 (lstRows b)), (10, .int .i64 k)]) (fun k => []) 47 3 (fun j hj => absurd hj (by omega)) ?_ ?_)
              · simp
              · intro k hk hJ
                refine W.of_WE hT mixed M_f74 _ (by kernel_rfl) ?_
                by_cases hlt : k < 3
                · have hw1 : IntKind.i64.wrap ((k : Int) + 1) = k + 1 := wr_i64 (by omega) (by omega)
                  have hlt' : (k : Int) < 3 := by omega
                  have hd := done_at (d := 2) (inSP_lst inb k) (inSP_lst ina k) (by have := len_lst l2b k; omega) (by have := len_lst l2a k; omega) (famK_or k)
                  cases e : subD (famK k) (a.lst k) (b.lst k)
                  · have e' : 0 < (doneL 2 (famK k) (b.lst k) (a.lst k)).length := Decidable.byContradiction fun h => by rw [subD_len.2 h] at e; cases e
                    have hc := contD_F hlt e
                    simp [hlt, hlt', hd, e', hc, famRows_get hlt, lstRows_get a hlt, lstRows_get b hlt]
                  · have e' := subD_len.1 e
                    have hJ' : ∀ j, j < k + 1 → subD (famK j) (a.lst j) (b.lst j) = true := by
                      intro j hj
                      rcases Nat.lt_or_ge j k with g | g
                      · exact hJ j g
                      · rw [show j = k by omega]; exact e
                    simp [hlt, hlt', hd, e', hw1, famRows_get hlt, lstRows_get a hlt, lstRows_get b hlt]
                    exact hJ'
                · have : k = 3 := by omega
                  subst this
                  simp
                  exact contD_iff.2 hJ
            · intro hc
              refine W.of_WE hT mixed M_f74 _ (by kernel_rfl) ?_
              simp [Try.f74, hc]
      · cases hh
    · cases hh
  · cases hh

end Go.Proofs.Ytkcmgjagjbiinaa.AL
namespace Go.Proofs.Ytkcmgjagjbiinaa.AL
open Go
attribute [local simp] qf cv qbin ibin sbin qun retPost rvOk ctV ctPost marksOk retV resAll resOf V.lt ltL V.ren renL V.exp V.exp1 cleanL V.clean closedL V.closed V.cells V.one V.tree
  loadV cellsAt isNC nilQ isSlD isIfD slNew ownRows ownCells V.isOwn slStore srcO qlook mlook mget mstr zval qnone qmake mput lmap isAggD placesOf fillV putCells lstore bound seqParts V.sh shL Blk.sh newV V.ok peqs peq srcRows qbytes byteSl appOk mmV mmR hidE V.fz fzL Blk.fz fzOk and_assoc
attribute [-simp] Int.not_le Int.not_lt Nat.not_le Nat.not_lt
/-- Both ends in one span of the list. -/
def endsD (L : List SP) (h l h' l' : Int) : Bool := L.any fun s => inS s.h s.l s.h' s.l' h l && inS s.h s.l s.h' s.l' h' l'
def prefD (r : RS) (f h l n : Int) : Bool := endsD (if f = 6 then r.l6 else r.l4) h l (lastA h l (widN f - n.toNat)).1 (lastA h l (widN f - n.toNat)).2
def SHasPD : List V → Option Res
  | [.agg cs, .agg [.int .u8 f, .int .u64 h, .int .u64 l, .int .i64 n]] => match rsOf cs with
    | some r => if inRS r ∧ lenRS 1000000 r ∧ inA h l then
        (if orE2 (chkR r) (chkP f h l n) ≠ 0 then some ⟨.tup [.bool false, .int .i64 (orE2 (chkR r) (chkP f h l n))], []⟩ else some ⟨.tup [.bool (prefD r f h l n), .int .i64 0], []⟩) else none
    | none => none
  | _ => none
end Go.Proofs.Ytkcmgjagjbiinaa.AL
