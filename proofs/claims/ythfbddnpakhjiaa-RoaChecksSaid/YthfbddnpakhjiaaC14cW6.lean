import Derived.Test.YthfbddnpakhjiaaC14cW5
/- What single functions compute: a part of the proof; no conditions. -/
set_option linter.unusedVariables false
set_option linter.unusedSimpArgs false
set_option maxRecDepth 100000
set_option linter.unusedSectionVars false
namespace Go.Proofs.Ythfbddnpakhjiaa.AL
open Go
attribute [local simp] qf cv qbin ibin sbin qun retPost rvOk ctV ctPost marksOk retV resAll resOf V.lt ltL V.ren renL V.exp V.exp1 cleanL V.clean closedL V.closed V.cells V.one V.tree
  loadV cellsAt isNC nilQ isSlD isIfD slNew ownRows ownCells V.isOwn slStore srcO qlook mlook mget mstr zval qnone qmake mput lmap isAggD placesOf fillV putCells lstore bound seqParts V.sh shL Blk.sh newV V.ok peqs peq srcRows appOk mmV mmR hidE V.fz fzL Blk.fz fzOk and_assoc
attribute [-simp] Int.not_le Int.not_lt Nat.not_le Nat.not_lt
/-- What is known amid an operation on two lists: is the last run open, what has come out. -/
def doneTo (f : Int) (E : List (Int × Int)) (k : Nat) : Int × Int :=
  if k + 1 < E.length then ((prevA (E.getD (k + 1) (0, 0)).1 (E.getD (k + 1) (0, 0)).2).1, (prevA (E.getD (k + 1) (0, 0)).1 (E.getD (k + 1) (0, 0)).2).2.1) else lastA 0 0 (widN f)
def setTo (out : List SP) (t : Int × Int) : List SP := out.set (out.length - 1) ⟨(out.getD (out.length - 1) SP0).h, (out.getD (out.length - 1) SP0).l, t.1, t.2⟩
def doneIs (d : Int) (a b : List SP) (E : List (Int × Int)) (k : Nat) : Bool := hold d (inLA a (E.getD k (0, 0))) (inLA b (E.getD k (0, 0)))
def dstA (d f : Int) (a b : List SP) (E : List (Int × Int)) : Nat → Bool × List SP
  | 0 => (false, [])
  | k + 1 => (doneIs d a b E k,
      if doneIs d a b E k = true then (if (dstA d f a b E k).1 = true then setTo (dstA d f a b E k).2 (doneTo f E k) else (dstA d f a b E k).2 ++ [⟨(E.getD k (0, 0)).1, (E.getD k (0, 0)).2, (doneTo f E k).1, (doneTo f E k).2⟩]) else (dstA d f a b E k).2)
def doneL (d f : Int) (a b : List SP) : List SP := (dstA d f a b (edgL f (a ++ b)) (edgL f (a ++ b)).length).2
theorem dstA_len (d f : Int) (a b : List SP) (E : List (Int × Int)) : ∀ k, (dstA d f a b E k).2.length ≤ k
  | 0 => by simp [dstA]
  | k + 1 => by
    have := dstA_len d f a b E k
    simp only [dstA]
    split
    · split
      · simp [setTo]; omega
      · simp; omega
    · omega
theorem dstA_ne (d f : Int) (a b : List SP) (E : List (Int × Int)) : ∀ k, (dstA d f a b E k).1 = true → (dstA d f a b E k).2 ≠ []
  | 0, h => by simp [dstA] at h
  | k + 1, h => by
    simp only [dstA] at h ⊢
    rw [if_pos h]
    split
    · rename_i h1
      have := dstA_ne d f a b E k h1
      intro h2
      apply this
      have h3 := congrArg List.length h2
      simp [setTo] at h3
      exact h3
    · simp
def SDone : List V → Option Res
  | [.int .i64 d, .int .u8 f, .rd 4 ra, .rd 4 rb] => match spsOf ra, spsOf rb with
    | some a, some b => if (∀ s ∈ a, inSP s) ∧ (∀ s ∈ b, inSP s) ∧ a.length ≤ 1000 ∧ b.length ≤ 1000 ∧ (f = 4 ∨ f = 6) then some ⟨.own 0, [.sl 4 79 (sRows (doneL d f a b))]⟩ else none
    | _, _ => none
  | _ => none
theorem sRows_app (a b : List SP) : sRows a ++ sRows b = sRows (a ++ b) := by simp [sRows]
theorem inL_at {l : List SP} {p : Int × Int} (h : l.length ≤ 1000000) : SInL [.rd 4 (sRows l), .agg [.int .u64 p.1, .int .u64 p.2]] = some ⟨.bool (inLA l p), []⟩ := by
  simp only [SInL, sRows_parse]
  rw [if_pos h]; rfl
theorem edg_at {f : Int} {l : List SP} (h : ∀ s ∈ l, inSP s) (hl : l.length ≤ 100000) : SEdg [.int .u8 f, .rd 4 (sRows l)] = some ⟨.rd 2 (adRows (edgL f l)), []⟩ := by
  simp only [SEdg, sRows_parse]
  rw [if_pos ⟨h, hl⟩]
theorem edgL_in {f : Int} {l : List SP} (h : ∀ s ∈ l, inSP s) : ∀ k, k ≤ l.length → ∀ p ∈ edgL f (l.take k), inA p.1 p.2
  | 0, _, p, hp => by simp [edgL] at hp; subst hp; exact ⟨by omega, by omega, by omega, by omega⟩
  | k + 1, hk, p, hp => by
    have ih := edgL_in (f := f) h k (by omega)
    have hkl : k < l.length := by omega
    have hs := h l[k] (List.getElem_mem hkl)
    rw [edgL_snoc hkl] at hp
    generalize l[k] = s at *
    have hn : inA (nextA f s.h' s.l').1 (nextA f s.h' s.l').2.1 := by
      unfold nextA
      simp only
      split
      · unfold addR
        simp only
        exact ⟨by omega, by omega, by omega, by omega⟩
      · simp only
        exact ⟨by omega, by omega, by omega, by omega⟩
    unfold edgStep at hp
    split at hp
    · rcases insA_mem.1 hp with h1 | h1
      · subst h1; exact hn
      · rcases insA_mem.1 h1 with h1 | h1
        · subst h1; exact ⟨hs.1, hs.2.1, hs.2.2.1, hs.2.2.2.1⟩
        · exact ih p h1
    · rcases insA_mem.1 hp with h1 | h1
      · subst h1; exact ⟨hs.1, hs.2.1, hs.2.2.1, hs.2.2.2.1⟩
      · exact ih p h1
theorem setTo_rows {out : List SP} (h : out ≠ []) (hl : out.length ≤ 100000) (t : Int × Int) : 0 ≤ IntKind.i64.wrap ((out.length : Int) - 1) ∧ IntKind.i64.wrap ((out.length : Int) - 1) < out.length ∧ (IntKind.i64.wrap ((out.length : Int) - 1)).toNat < out.length ∧
    (sRows out).set (IntKind.i64.wrap ((out.length : Int) - 1)).toNat ((((sRows out)[(IntKind.i64.wrap ((out.length : Int) - 1)).toNat]?.getD []).set 2 (.int .u64 t.1)).set 3 (.int .u64 t.2)) = sRows (setTo out t) := by
  obtain ⟨m, hm⟩ : ∃ m, out.length = m + 1 := ⟨out.length - 1, by have := List.length_pos_iff.2 h; omega⟩
  have hw : IntKind.i64.wrap ((out.length : Int) - 1) = (m : Int) := by rw [wr_i64 (by omega) (by omega)]; omega
  rw [hw, Int.toNat_natCast]
  refine ⟨by omega, by omega, by omega, ?_⟩
  have hlt : m < out.length := by omega
  unfold setTo
  rw [show out.length - 1 = m by omega]
  unfold sRows
  rw [List.map_set]
  congr 1
  simp [hlt, SP.row]
def M_f129 : Md := fun i => if i = 7 then some #[0, 0, 0, 0, 12, 28, 62, 0, 0, 0, 768, 1792, 4094, 8191, 16383] else if i = 14 then some #[0, 0, 0, 6, 14, 0, 62, 126, 255, 511] else some #[]
@[simp] theorem M_f129_eq {i : Nat} : M_f129 i = (if i = 7 then some #[0, 0, 0, 0, 12, 28, 62, 0, 0, 0, 768, 1792, 4094, 8191, 16383] else if i = 14 then some #[0, 0, 0, 6, 14, 0, 62, 126, 255, 511] else some #[]) := rfl
theorem runs_ref03_done : ∀ args r, SDone args = some r → Runs Try.prog 129 args r := by
  intro args r hh
  unfold SDone at hh
  split at hh
  · rename_i d f ra rb
    split at hh
    · rename_i a b ha hb
      split at hh
      · rename_i hin
        obtain ⟨hina, hinb, hla, hlb, hf⟩ := hin
        cases hh
        have h1 := parse_eq spOf_eq ha
        have h2 := parse_eq spOf_eq hb
        subst h1 h2
        show Runs _ _ [.int .i64 d, .int .u8 f, .rd 4 (sRows a), .rd 4 (sRows b)] _
        have hab : ∀ s ∈ a ++ b, inSP s := fun s hs => by
          rcases List.mem_append.1 hs with h | h
          · exact hina s h
          · exact hinb s h
        have hedg := edg_at (f := f) hab (by simp; omega)
        have hEin := edgL_in (f := f) hab (a ++ b).length (Nat.le_refl _)
        have hElen := edgL_len (f := f) (l := a ++ b) (a ++ b).length (Nat.le_refl _)
        rw [List.take_length] at hEin hElen
        have hElen2 : (edgL f (a ++ b)).length ≤ 4001 := by rw [List.length_append] at hElen; omega
        have hT : (((((T0.add 140 SInL).add 138 SEdg).add 139 SHold).add 94 SLastR).add 141 SPrev).ok Try.prog :=
          Tab.add_ok (Tab.add_ok (Tab.add_ok (Tab.add_ok (Tab.add_ok (T0_ok _) runs_ref03_in) runs_ref03_edges) runs_ref03_holds) runs_ref02_Last) runs_ref02_Prev
        refine Runs.of_body Try.func129 (by decide) rfl (by simp [Try.f129]) ?_
        refine W.seqE hT mixed M_f129 (by kernel_rfl) ?_
        simp [Try.f129]
        refine W.cut True [(0, .int .i64 d), (1, .int .u8 f), (2, .rd 4 (sRows a)), (3, .rd 4 (sRows b)), (9, .rd 2 (adRows (edgL f (a ++ b))))] [] 86 ?_ ?_
        · refine W.region_split hT 6 ?_
          simp
          refine ⟨by omega, by omega, by omega, by omega, ?_⟩
          refine ⟨_, Wk.freeze 48 (.sl 4 79 (sRows a ++ sRows b)) (by simp) (by simp), ?_⟩
          simp [sRows_app, hedg]
        · intro _
          obtain ⟨E, hE⟩ : ∃ E, E = edgL f (a ++ b) := ⟨_, rfl⟩
          unfold doneL
          rw [← hE] at hEin hElen2 ⊢
          refine W.seqE hT mixed M_f129 (by kernel_rfl) ?_
          simp
          refine W.wk (Wk.adopt 10 4 79 (by omega) (by simp)) ?_
          refine W.seqE hT mixed M_f129 (by kernel_rfl) ?_
          simp
          refine W.cut True [(10, .own 0)] [.sl 4 79 (sRows (dstA d f a b E E.length).2)] 86 ?_ ?_
          · refine W.seqE hT mixed M_f129 (by kernel_rfl) ?_
            simp
            refine W.block (W.for (fun _ => True) (fun k => [(0, .int .i64 d), (1, .int .u8 f), (2, .rd 4 (sRows a)), (3, .rd 4 (sRows b)), (9, .rd 2 (adRows E)), (10, .own 0), (11, .bool (dstA d f a b E k).1), (12, .int .i64 k)]) (fun k => [.sl 4 79 (sRows (dstA d f a b E k).2)]) 86 E.length trivial ?_ ?_)
            · simp [dstA, sRows, adRows]
            · intro k hk _
              refine W.of_WE hT mixed M_f129 _ (by kernel_rfl) ?_
              by_cases hlt : k < E.length
              · have hw1 : IntKind.i64.wrap ((k : Int) + 1) = k + 1 := wr_i64 (by omega) (by omega)
                have hp1 : (0 : Int) ≤ (k : Int) + 1 := by omega
                have hp2 : ((k : Int) + 1).toNat = k + 1 := by omega
                have i1 := inL_at (l := a) (p := E[k]) (by omega)
                have i2 := inL_at (l := b) (p := E[k]) (by omega)
                have hg : E.getD k (0, 0) = E[k] := by simp [hlt]
                have hlast : SLastR [.agg [.int .u8 f, .int .u64 0, .int .u64 0, .int .i64 0]] = some ⟨.agg [.int .u64 (lastA 0 0 (widN f)).1, .int .u64 (lastA 0 0 (widN f)).2], []⟩ := by
                  simp only [SLastR]
                  rw [if_pos ⟨by decide, by rcases hf with rfl | rfl <;> decide, by omega, by omega⟩]
                  rfl
                have hol := dstA_len d f a b E k
                have hne := dstA_ne d f a b E k
                have hst : dstA d f a b E (k + 1) = (doneIs d a b E k, if doneIs d a b E k = true then (if (dstA d f a b E k).1 = true then setTo (dstA d f a b E k).2 (doneTo f E k) else (dstA d f a b E k).2 ++ [⟨(E.getD k (0, 0)).1, (E.getD k (0, 0)).2, (doneTo f E k).1, (doneTo f E k).2⟩]) else (dstA d f a b E k).2) := rfl
                have his : doneIs d a b E k = hold d (inLA a E[k]) (inLA b E[k]) := by unfold doneIs; rw [hg]
                rw [hst, hg, his]
                generalize dstA d f a b E k = D at *
                generalize inLA a E[k] = ia at *
                generalize inLA b E[k] = ib at *
                obtain ⟨op, out⟩ := D
                simp only at hol hne ⊢
                have hsn := sRows_snoc out ⟨E[k].1, E[k].2, (doneTo f E k).1, (doneTo f E k).2⟩
                simp only [SP.row] at hsn
                by_cases hk1 : k + 1 < E.length
                · have hk1' : (k : Int) + 1 < E.length := by omega
                  have hq := hEin E[k + 1] (List.getElem_mem hk1)
                  have hpr : SPrev [.agg [.int .u64 E[k + 1].1, .int .u64 E[k + 1].2]] = some ⟨.tup [.agg [.int .u64 (prevA E[k + 1].1 E[k + 1].2).1, .int .u64 (prevA E[k + 1].1 E[k + 1].2).2.1], .bool (prevA E[k + 1].1 E[k + 1].2).2.2], []⟩ := by
                    simp only [SPrev]; rw [if_pos hq]
                  have hto : doneTo f E k = ((prevA E[k + 1].1 E[k + 1].2).1, (prevA E[k + 1].1 E[k + 1].2).2.1) := by
                    unfold doneTo; rw [if_pos hk1]; simp [hk1]
                  rw [hto] at hsn ⊢
                  cases hh : hold d ia ib
                  · simp [hlt, adRow, i1, i2, SHold, hh, hlast, hw1, hp1, hp2, hk1, hk1', hpr]
                  · cases op
                    · simp [hlt, adRow, i1, i2, SHold, hh, hlast, hw1, hp1, hp2, hk1, hk1', hpr]
                      exact ⟨by omega, by omega, hsn⟩
                    · simp [hlt, adRow, i1, i2, SHold, hh, hlast, hw1, hp1, hp2, hk1, hk1', hpr]
                      exact setTo_rows (hne rfl) (by omega) ((prevA E[k + 1].1 E[k + 1].2).1, (prevA E[k + 1].1 E[k + 1].2).2.1)
                · have hk1' : ¬ (k : Int) + 1 < E.length := by omega
                  have hto : doneTo f E k = lastA 0 0 (widN f) := by unfold doneTo; rw [if_neg hk1]
                  rw [hto] at hsn ⊢
                  cases hh : hold d ia ib
                  · simp [hlt, adRow, i1, i2, SHold, hh, hlast, hw1, hk1, hk1']
                  · cases op
                    · simp [hlt, adRow, i1, i2, SHold, hh, hlast, hw1, hk1, hk1']
                      exact ⟨by omega, by omega, hsn⟩
                    · simp [hlt, adRow, i1, i2, SHold, hh, hlast, hw1, hk1, hk1']
                      exact setTo_rows (hne rfl) (by omega) _
              · have : k = E.length := by omega
                subst this
                simp
          · intro _
            refine W.of_WE hT mixed M_f129 _ (by kernel_rfl) ?_
            simp [Try.f129]
      · cases hh
    · cases hh
  · cases hh

end Go.Proofs.Ythfbddnpakhjiaa.AL
namespace Go.Proofs.Ythfbddnpakhjiaa.AL
open Go
attribute [local simp] qf cv qbin ibin sbin qun retPost rvOk ctV ctPost marksOk retV resAll resOf V.lt ltL V.ren renL V.exp V.exp1 cleanL V.clean closedL V.closed V.cells V.one V.tree
  loadV cellsAt isNC nilQ isSlD isIfD slNew ownRows ownCells V.isOwn slStore srcO qlook mlook mget mstr zval qnone qmake mput lmap isAggD placesOf fillV putCells lstore bound seqParts V.sh shL Blk.sh newV V.ok peqs peq srcRows appOk mmV mmR hidE V.fz fzL Blk.fz fzOk and_assoc
attribute [-simp] Int.not_le Int.not_lt Nat.not_le Nat.not_lt
/-- Nothing of b outside a, as the reference asks. -/
def subD (f : Int) (a b : List SP) : Bool := (doneL 2 f b a).isEmpty
def contD (a b : RS) : Bool := subD 4 a.l4 b.l4 && subD 6 a.l6 b.l6 && subD 4 (a.la.map wideS) (b.la.map wideS)
theorem contD_iff {a b : RS} : contD a b = true ↔ ∀ k, k < 3 → subD (famK k) (a.lst k) (b.lst k) = true := by
  unfold contD
  rw [Bool.and_eq_true, Bool.and_eq_true]
  constructor
  · rintro ⟨⟨h0, h1⟩, h2⟩ k hk
    match k, hk with
    | 0, _ => exact h0
    | 1, _ => exact h1
    | 2, _ => exact h2
  · intro h
    obtain ⟨h0, h1, h2⟩ := forall3 h
    exact ⟨⟨h0, h1⟩, h2⟩
theorem contD_F {a b : RS} {k : Nat} (hk : k < 3) (h : subD (famK k) (a.lst k) (b.lst k) = false) : contD a b = false := by
  rw [Bool.eq_false_iff]
  intro hc
  have := contD_iff.1 hc k hk
  rw [h] at this; cases this
def SContD : List V → Option Res
  | [.agg ca, .agg cb] => match rsOf ca, rsOf cb with
    | some a, some b => if inRS a ∧ inRS b ∧ lenRS 1000000 a ∧ lenRS 1000000 b then
        (if orE2 (chkR a) (chkR b) ≠ 0 then some ⟨.tup [.bool false, .int .i64 (orE2 (chkR a) (chkR b))], []⟩ else some ⟨.tup [.bool (contD a b), .int .i64 0], []⟩) else none
    | _, _ => none
  | _ => none
theorem both_at {a b : RS} (ia : inRS a) (ib : inRS b) (la : lenRS 1000000 a) (lb : lenRS 1000000 b) : SBoth [.agg a.cells, .agg b.cells] = some ⟨.int .i64 (orE2 (chkR a) (chkR b)), []⟩ := by
  simp only [SBoth, rsOf_cells]
  rw [if_pos ⟨ia, ib, la, lb⟩]
theorem famK_or (k : Nat) : famK k = 4 ∨ famK k = 6 := by
  match k with
  | 0 => exact .inl rfl
  | 1 => exact .inr rfl
  | k + 2 => exact .inl rfl
theorem done_at {d f : Int} {a b : List SP} (ha : ∀ s ∈ a, inSP s) (hb : ∀ s ∈ b, inSP s) (la : a.length ≤ 1000) (lb : b.length ≤ 1000) (hf : f = 4 ∨ f = 6) : SDone [.int .i64 d, .int .u8 f, .rd 4 (sRows a), .rd 4 (sRows b)] = some ⟨.own 0, [.sl 4 79 (sRows (doneL d f a b))]⟩ := by
  simp only [SDone, sRows_parse]
  rw [if_pos ⟨ha, hb, la, lb, hf⟩]
theorem subD_len {f : Int} {a b : List SP} : subD f a b = true ↔ ¬ (0 < (doneL 2 f b a).length) := by
  unfold subD
  rw [List.isEmpty_iff_length_eq_zero]
  omega
end Go.Proofs.Ythfbddnpakhjiaa.AL
namespace Go.Proofs.Ythfbddnpakhjiaa.AL
open Go
attribute [local simp] qf cv qbin ibin sbin qun retPost rvOk ctV ctPost marksOk retV resAll resOf V.lt ltL V.ren renL V.exp V.exp1 cleanL V.clean closedL V.closed V.cells V.one V.tree
  loadV cellsAt isNC nilQ isSlD isIfD slNew ownRows ownCells V.isOwn slStore srcO qlook mlook mget mstr zval qnone qmake mput lmap isAggD placesOf fillV putCells lstore bound seqParts V.sh shL Blk.sh newV V.ok peqs peq srcRows appOk mmV mmR hidE V.fz fzL Blk.fz fzOk and_assoc
attribute [-simp] Int.not_le Int.not_lt Nat.not_le Nat.not_lt
/-- Both ends in one span of the list. -/
def endsD (L : List SP) (h l h' l' : Int) : Bool := L.any fun s => inS s.h s.l s.h' s.l' h l && inS s.h s.l s.h' s.l' h' l'
def prefD (r : RS) (f h l n : Int) : Bool := endsD (if f = 6 then r.l6 else r.l4) h l (lastA h l (widN f - n.toNat)).1 (lastA h l (widN f - n.toNat)).2
def SHasPD : List V → Option Res
  | [.agg cs, .agg [.int .u8 f, .int .u64 h, .int .u64 l, .int .i64 n]] => match rsOf cs with
    | some r => if inRS r ∧ lenRS 1000000 r ∧ inA h l then
        (if orE2 (chkR r) (chkP f h l n) ≠ 0 then some ⟨.tup [.bool false, .int .i64 (orE2 (chkR r) (chkP f h l n))], []⟩ else some ⟨.tup [.bool (prefD r f h l n), .int .i64 0], []⟩) else none
    | none => none
  | _ => none
end Go.Proofs.Ythfbddnpakhjiaa.AL
namespace Go.Proofs.Ythfbddnpakhjiaa.AL
open Go
attribute [local simp] qf cv qbin ibin sbin qun retPost rvOk ctV ctPost marksOk retV resAll resOf V.lt ltL V.ren renL V.exp V.exp1 cleanL V.clean closedL V.closed V.cells V.one V.tree
  loadV cellsAt isNC nilQ isSlD isIfD slNew ownRows ownCells V.isOwn slStore srcO qlook mlook mget mstr zval qnone qmake mput lmap isAggD placesOf fillV putCells lstore bound seqParts V.sh shL Blk.sh newV V.ok peqs peq srcRows appOk mmV mmR hidE V.fz fzL Blk.fz fzOk and_assoc
attribute [-simp] Int.not_le Int.not_lt Nat.not_le Nat.not_lt
def SHasAD : List V → Option Res
  | [.agg cs, .int .u32 x] => match rsOf cs with
    | some r => if inRS r ∧ lenRS 1000000 r ∧ 0 ≤ x ∧ x ≤ 4294967295 then
        (if chkR r ≠ 0 then some ⟨.tup [.bool false, .int .i64 (chkR r)], []⟩ else some ⟨.tup [.bool (inLA (r.la.map wideS) (0, x)), .int .i64 0], []⟩) else none
    | none => none
  | _ => none
theorem inL_at' {l : List SP} {x y : Int} (h : l.length ≤ 1000000) : SInL [.rd 4 (sRows l), .agg [.int .u64 x, .int .u64 y]] = some ⟨.bool (inLA l (x, y)), []⟩ := inL_at (p := (x, y)) h
theorem sameR_iff {a b : RS} (ia : inRS a) (ib : inRS b) : sameR a b = true ↔ ∀ k, k < 3 → a.lst k = b.lst k := by
  unfold sameR
  simp only [Bool.and_eq_true, decide_eq_true_eq]
  have hw : a.la.map wideS = b.la.map wideS ↔ a.la = b.la := by
    constructor
    · intro h
      have inj : ∀ (l m : List AS), l.map wideS = m.map wideS → l = m := by
        intro l
        induction l with
        | nil => intro m h; cases m <;> simp at h ⊢
        | cons x l ih =>
          intro m h
          cases m with
          | nil => simp at h
          | cons y m =>
            simp only [List.map_cons, List.cons.injEq] at h
            obtain ⟨h1, h2⟩ := h
            rw [ih m h2]
            congr 1
            cases x; cases y
            simp only [wideS, SP.mk.injEq] at h1
            simp [h1.2.1, h1.2.2.2]
      exact inj _ _ h
    · intro h; rw [h]
  constructor
  · rintro ⟨⟨h0, h1⟩, h2⟩ k hk
    match k, hk with
    | 0, _ => exact h0
    | 1, _ => exact h1
    | 2, _ => exact hw.2 h2
  · intro h
    obtain ⟨h0, h1, h2⟩ := forall3 h
    exact ⟨⟨h0, h1⟩, hw.1 h2⟩
theorem sameR_F {a b : RS} (ia : inRS a) (ib : inRS b) {k : Nat} (hk : k < 3) (h : a.lst k ≠ b.lst k) : sameR a b = false := by
  rw [Bool.eq_false_iff]
  exact fun hc => h ((sameR_iff ia ib).1 hc k hk)
def SSameD : List V → Option Res
  | [.agg ca, .agg cb] => match rsOf ca, rsOf cb with
    | some a, some b => if inRS a ∧ inRS b ∧ lenRS 1000000 a ∧ lenRS 1000000 b then some ⟨.bool (sameR a b), []⟩ else none
    | _, _ => none
  | _ => none
theorem SP_ne {s t : SP} : (((decide (s.h = t.h) && decide (s.l = t.l)) && (decide (s.h' = t.h') && decide (s.l' = t.l'))) = true) ↔ s = t := by
  cases s; cases t; simp [and_assoc]
def M_f30 : Md := fun i => if i = 6 then some #[0, 0, 3, 7, 15, 0, 0, 96, 224, 480, 1023] else if i = 11 then some #[0, 0, 3, 7, 0, 31, 63, 0, 0, 384, 896, 0, 3968, 8064, 16383] else some #[]
@[simp] theorem M_f30_eq {i : Nat} : M_f30 i = (if i = 6 then some #[0, 0, 3, 7, 15, 0, 0, 96, 224, 480, 1023] else if i = 11 then some #[0, 0, 3, 7, 0, 31, 63, 0, 0, 384, 896, 0, 3968, 8064, 16383] else some #[]) := rfl
theorem runs_ref03_Same : ∀ args r, SSameD args = some r → Runs Try.prog 30 args r := by
  intro args r hh
  unfold SSameD at hh
  split at hh
  · rename_i ca cb
    split at hh
    · rename_i a b ha hb
      split at hh
      · rename_i hin
        obtain ⟨ina, inb, la, lb⟩ := hin
        cases hh
        have h1 := rsOf_eq ha
        have h2 := rsOf_eq hb
        subst h1 h2
        have sa := lists_at ina la
        have sb := lists_at inb lb
        simp only [RS.cells] at sa sb
        have hT : (T0.add 71 SLists).ok Try.prog := Tab.add_ok (T0_ok _) runs_ref03_lists
        refine Runs.of_body Try.func30 (by decide) rfl (by simp [Try.f30]) ?_
        refine W.seqE hT mixed M_f30 (by kernel_rfl) ?_
        simp [Try.f30, RS.cells]
        refine W.seqE hT mixed M_f30 (by kernel_rfl) ?_
        simp [Try.f30, RS.cells, sa]
        refine W.seqE hT mixed M_f30 (by kernel_rfl) ?_
        simp [Try.f30, RS.cells, sb]
        refine W.cut (sameR a b = true) [] [] 60 ?_ ?_
        · refine W.seqE hT mixed M_f30 (by kernel_rfl) ?_
          simp [Try.f30]
          refine W.block (W.for (fun k => ∀ j, j < k → a.lst j = b.lst j) (fun k => [(5, .rd 1 (lstRows a)), (7, .rd 1 (lstRows b)), (9, .int .i64 k)]) (fun k => []) 60 3 (fun j hj => absurd hj (by omega)) ?_ ?_)
          · simp
          · intro k hk hJ
            refine W.seqE hT mixed M_f30 (by kernel_rfl) ?_
            by_cases hlt : k < 3
            · have hw1 : IntKind.i64.wrap ((k : Int) + 1) = k + 1 := wr_i64 (by omega) (by omega)
              have hlt' : (k : Int) < 3 := by omega
              have hla := len_lst la k
              simp [hlt, hlt']
              refine W.cut (a.lst k = b.lst k) [(5, .rd 1 (lstRows a)), (7, .rd 1 (lstRows b)), (9, .int .i64 k)] [] 60 ?_ ?_
              · refine W.block ?_
                refine W.cut ((a.lst k).length = (b.lst k).length) [(5, .rd 1 (lstRows a)), (7, .rd 1 (lstRows b)), (9, .int .i64 k)] [] 60 ?_ ?_
                · refine W.of_WE hT mixed M_f30 _ (by kernel_rfl) ?_
                  by_cases hl : (a.lst k).length = (b.lst k).length
                  · have hl' : ((a.lst k).length : Int) = (b.lst k).length := by omega
                    simp [hlt, hlt', hl, hl', lstRows_get a hlt, lstRows_get b hlt]
                  · have hl' : ¬ ((a.lst k).length : Int) = (b.lst k).length := by omega
                    have hf := sameR_F ina inb hlt (fun h => hl (by rw [h]))
                    simp [hlt, hlt', hl, hl', lstRows_get a hlt, lstRows_get b hlt, hf]
                · intro hl
                  refine W.seqE hT mixed M_f30 (by kernel_rfl) ?_
                  simp
                  refine W.block (W.for (fun i => ∀ j (hj : j < i) (h : j < (a.lst k).length) (h' : j < (b.lst k).length), (a.lst k)[j] = (b.lst k)[j]) (fun i => [(5, .rd 1 (lstRows a)), (7, .rd 1 (lstRows b)), (9, .int .i64 k), (10, .int .i64 i)]) (fun _ => []) 60 (a.lst k).length (fun j hj => absurd hj (by omega)) ?_ ?_)
                  · simp
                  · intro i hi hJi
                    refine W.of_WE hT mixed M_f30 _ (by kernel_rfl) ?_
                    by_cases hil : i < (a.lst k).length
                    · have hw2 : IntKind.i64.wrap ((i : Int) + 1) = (i : Int) + 1 := wr_i64 (by omega) (by omega)
                      have hil2 : i < (b.lst k).length := by omega
                      by_cases e : (a.lst k)[i] = (b.lst k)[i]
                      · have hJ2 : ∀ j (hj : j < i + 1) (h : j < (a.lst k).length) (h' : j < (b.lst k).length), (a.lst k)[j] = (b.lst k)[j] := by
                          intro j hj h h'
                          rcases Nat.lt_or_ge j i with g | g
                          · exact hJi j g h h'
                          · have : j = i := by omega
                            subst this; exact e
                        simp [hlt, hlt', hil, hil2, lstRows_get a hlt, lstRows_get b hlt, SP.row, hw2, e]
                        exact hJ2
                      · have hf := sameR_F ina inb hlt (fun h => e (by simp [h]))
                        have hne : (((decide ((a.lst k)[i].h = (b.lst k)[i].h) && decide ((a.lst k)[i].l = (b.lst k)[i].l)) && (decide ((a.lst k)[i].h' = (b.lst k)[i].h') && decide ((a.lst k)[i].l' = (b.lst k)[i].l')))) = false := by
                          rw [Bool.eq_false_iff]; exact fun h => e (SP_ne.1 h)
                        simp [hlt, hlt', hil, hil2, lstRows_get a hlt, lstRows_get b hlt, SP.row, hne, hf]
                        intro e1 e2 e3 e4
                        exact absurd (SP_ne.1 (by simp [e1, e2, e3, e4])) e
                    · simp [hlt, hlt', hil, lstRows_get a hlt]
                      refine List.ext_getElem hl fun j h h' => hJi j (by omega) h h'
              · intro hgg
                have hJ' : ∀ j, j < k + 1 → a.lst j = b.lst j := by
                  intro j hj
                  rcases Nat.lt_or_ge j k with g | g
                  · exact hJ j g
                  · rw [show j = k by omega]; exact hgg
                refine W.of_WE hT mixed M_f30 _ (by kernel_rfl) ?_
                simp [hw1, hlt]
                exact hJ'
            · have : k = 3 := by omega
              subst this
              simp
              exact (sameR_iff ina inb).2 hJ
        · intro hgg
          refine W.of_WE hT mixed M_f30 _ (by kernel_rfl) ?_
          simp [Try.f30, hgg]
      · cases hh
    · cases hh
  · cases hh

end Go.Proofs.Ythfbddnpakhjiaa.AL
namespace Go.Proofs.Ythfbddnpakhjiaa.AL
open Go
/-! Lists of spans as sets of numbers. -/
def SP.lo (s : SP) : Int := numA (s.h, s.l)
def SP.hi (s : SP) : Int := numA (s.h', s.l')
structure Vf (f : Int) (s : SP) : Prop where
  a : inA s.h s.l
  b : inA s.h' s.l'
  ca : cAddr f s.h s.l = true
  cb : cAddr f s.h' s.l' = true
  le : s.lo ≤ s.hi
  nn : 0 ≤ s.lo
  lt : s.hi < 2 ^ widN f
def mem (l : List SP) (N : Int) : Prop := ∃ s ∈ l, s.lo ≤ N ∧ N ≤ s.hi
/-- A gap between. -/
def gapR (s t : SP) : Prop := s.hi + 1 < t.lo
structure Nrm (f : Int) (l : List SP) : Prop where
  v : ∀ s ∈ l, Vf f s
  p : l.Pairwise gapR
theorem mem_nil {N : Int} : ¬ mem [] N := by rintro ⟨s, hs, _⟩; cases hs
theorem mem_cons {s : SP} {l : List SP} {N : Int} : mem (s :: l) N ↔ (s.lo ≤ N ∧ N ≤ s.hi) ∨ mem l N := by
  unfold mem
  constructor
  · rintro ⟨t, ht, h⟩
    rcases List.mem_cons.1 ht with rfl | ht
    · exact .inl h
    · exact .inr ⟨t, ht, h⟩
  · rintro (h | ⟨t, ht, h⟩)
    · exact ⟨s, by simp, h⟩
    · exact ⟨t, by simp [ht], h⟩
theorem mem_append {l m : List SP} {N : Int} : mem (l ++ m) N ↔ mem l N ∨ mem m N := by
  unfold mem
  constructor
  · rintro ⟨t, ht, h⟩
    rcases List.mem_append.1 ht with ht | ht
    · exact .inl ⟨t, ht, h⟩
    · exact .inr ⟨t, ht, h⟩
  · rintro (⟨t, ht, h⟩ | ⟨t, ht, h⟩)
    · exact ⟨t, by simp [ht], h⟩
    · exact ⟨t, by simp [ht], h⟩
theorem mem_one {s : SP} {N : Int} : mem [s] N ↔ s.lo ≤ N ∧ N ≤ s.hi := by
  rw [mem_cons]
  exact ⟨fun h => h.resolve_right mem_nil, .inl⟩
theorem cAddr_num {f h l : Int} (hf : f = 4 ∨ f = 6) (hA : inA h l) (hlt : numA (h, l) < 2 ^ widN f) : cAddr f h l = true := by
  obtain ⟨h0, h1, l0, l1⟩ := hA
  rcases hf with rfl | rfl
  · have hlt : h * 18446744073709551616 + l < 4294967296 := hlt
    have : h = 0 := by omega
    subst this
    unfold cAddr
    simp
    omega
  · rfl
theorem Vf.f46 {f : Int} {s : SP} (h : Vf f s) : f = 4 ∨ f = 6 := cAddr_46 h.ca
theorem Vf.mk' {f : Int} {s : SP} (hf : f = 4 ∨ f = 6) (ha : inA s.h s.l) (hb : inA s.h' s.l') (hle : s.lo ≤ s.hi) (hlt : s.hi < 2 ^ widN f) : Vf f s :=
  ⟨ha, hb, cAddr_num hf ha (Int.lt_of_le_of_lt hle hlt), cAddr_num hf hb hlt, hle, by obtain ⟨h0, h1, l0, l1⟩ := ha; unfold SP.lo numA; simp only; omega, hlt⟩
theorem vf_of {f : Int} {s : SP} (h : chkS f s.h s.l s.h' s.l' = 0) (hs : inSP s) : Vf f s := by
  obtain ⟨h1, h2, h3, h4, h5⟩ := chk_parts h hs
  exact ⟨h1, h2, h3, h4, h5, (numA_lt h1 h3).1, (numA_lt h2 h4).2⟩
theorem Vf.inj {f : Int} {s t : SP} (hs : Vf f s) (ht : Vf f t) (h1 : s.lo = t.lo) (h2 : s.hi = t.hi) : s = t := by
  have e1 := numA_inj (p := (s.h, s.l)) (q := (t.h, t.l)) ⟨hs.a.2.2.1, hs.a.2.2.2⟩ ⟨ht.a.2.2.1, ht.a.2.2.2⟩ h1
  have e2 := numA_inj (p := (s.h', s.l')) (q := (t.h', t.l')) ⟨hs.b.2.2.1, hs.b.2.2.2⟩ ⟨ht.b.2.2.1, ht.b.2.2.2⟩ h2
  cases s; cases t
  simp only [Prod.mk.injEq] at e1 e2
  simp [e1, e2]
theorem gap_of {l : List SP} (hle : ∀ s ∈ l, s.lo ≤ s.hi) (h : ∀ i (h : i + 1 < l.length), gapR (l[i]'(by omega)) l[i + 1]) : l.Pairwise gapR := by
  rw [List.pairwise_iff_getElem]
  intro i j hi hj hij
  obtain ⟨n, rfl⟩ : ∃ n, j = i + 1 + n := ⟨j - (i + 1), by omega⟩
  induction n with
  | zero => exact h i hj
  | succ n ih =>
    have h1 := ih (by omega) (by omega)
    have h2 := h (i + 1 + n) (by omega)
    have h3 := hle l[i + 1 + n] (List.getElem_mem (by omega))
    unfold gapR at *
    have : l[i + 1 + n + 1] = l[i + 1 + (n + 1)] := rfl
    rw [← this]
    omega
theorem nrm_of {f : Int} {l : List SP} (hin : ∀ s ∈ l, inSP s) (hg : goodL f l = true) (hn : nrmL l = true) : Nrm f l := by
  have hv : ∀ s ∈ l, Vf f s := by
    intro s hs
    obtain ⟨i, hi, rfl⟩ := List.mem_iff_getElem.1 hs
    exact vf_of (any_iff.1 hg i hi) (hin _ hs)
  refine ⟨hv, gap_of (fun s hs => (hv s hs).le) fun i hi => ?_⟩
  have h1 := hv _ (List.getElem_mem hi)
  have h2 := hv _ (List.getElem_mem (show i < l.length by omega))
  exact (aftB_iff h1.a h2.b).1 (nrmL_iff.1 hn i hi)
/-- A normal list is told by its elements. -/
theorem nrm_eq {f : Int} : ∀ {l m : List SP}, Nrm f l → Nrm f m → (∀ N, mem l N ↔ mem m N) → l = m
  | [], [], _, _, _ => rfl
  | s :: l, [], hl, _, h => absurd ((h s.lo).1 (mem_cons.2 (.inl ⟨Int.le_refl _, (hl.v s (by simp)).le⟩))) mem_nil
  | [], t :: m, _, hm, h => absurd ((h t.lo).2 (mem_cons.2 (.inl ⟨Int.le_refl _, (hm.v t (by simp)).le⟩))) mem_nil
  | s :: l, t :: m, hl, hm, h => by
    have vs := hl.v s (by simp)
    have vt := hm.v t (by simp)
    obtain ⟨ps, pl⟩ := List.pairwise_cons.1 hl.p
    obtain ⟨pt, pm⟩ := List.pairwise_cons.1 hm.p
    have hle := vs.le
    have hle' := vt.le
    have tail : ∀ (x y : SP) (k : List SP), (∀ u ∈ k, gapR x u) → ∀ N, mem k N → x.hi + 1 < N := by
      rintro x y k hk N ⟨u, hu, h1, h2⟩
      have := hk u hu
      unfold gapR at this
      omega
    have e1 : s.lo = t.lo := by
      have a1 := (h s.lo).1 (mem_cons.2 (.inl ⟨Int.le_refl _, hle⟩))
      have a2 := (h t.lo).2 (mem_cons.2 (.inl ⟨Int.le_refl _, hle'⟩))
      rcases mem_cons.1 a1 with a1 | a1
      · rcases mem_cons.1 a2 with a2 | a2
        · omega
        · have := tail s s l ps _ a2; omega
      · have := tail t t m pt _ a1
        rcases mem_cons.1 a2 with a2 | a2
        · omega
        · have := tail s s l ps _ a2; omega
    have e2 : s.hi = t.hi := by
      rcases Int.lt_trichotomy s.hi t.hi with g | g | g
      · have a1 := (h (s.hi + 1)).2 (mem_cons.2 (.inl ⟨by omega, by omega⟩))
        rcases mem_cons.1 a1 with a1 | a1
        · omega
        · have := tail s s l ps _ a1; omega
      · exact g
      · have a1 := (h (t.hi + 1)).1 (mem_cons.2 (.inl ⟨by omega, by omega⟩))
        rcases mem_cons.1 a1 with a1 | a1
        · omega
        · have := tail t t m pt _ a1; omega
    have e := vs.inj vt e1 e2
    subst e
    congr 1
    refine nrm_eq ⟨fun u hu => hl.v u (by simp [hu]), pl⟩ ⟨fun u hu => hm.v u (by simp [hu]), pm⟩ fun N => ?_
    constructor
    · intro hN
      have g := tail s s l ps _ hN
      rcases mem_cons.1 ((h N).1 (mem_cons.2 (.inr hN))) with a | a
      · omega
      · exact a
    · intro hN
      have g := tail s s m pt _ hN
      rcases mem_cons.1 ((h N).2 (mem_cons.2 (.inr hN))) with a | a
      · omega
      · exact a
theorem nrm_nil {f : Int} {l : List SP} (hl : Nrm f l) : l = [] ↔ ∀ N, ¬ mem l N := by
  constructor
  · rintro rfl N; exact mem_nil
  · intro h
    exact nrm_eq hl ⟨fun s hs => (by cases hs), List.Pairwise.nil⟩ fun N => ⟨fun hN => absurd hN (h N), fun hN => absurd hN mem_nil⟩
theorem mem_rng {f : Int} {l : List SP} (hl : ∀ s ∈ l, Vf f s) {N : Int} (h : mem l N) : 0 ≤ N ∧ N < 2 ^ widN f := by
  obtain ⟨s, hs, h1, h2⟩ := h
  have := hl s hs
  exact ⟨Int.le_trans this.nn h1, Int.lt_of_le_of_lt h2 this.lt⟩
/-! The difference, run by run. -/
theorem mstep_num {f fr : Int} {s x : SP} {m : MSt} (hs : Vf f s) (hx : Vf f x) (ho : m.o = true → inA m.h m.l ∧ numA (m.h, m.l) = fr) :
    ((m.o = false ∨ x.hi < fr ∨ s.hi < x.lo) → mstep s m x = m) ∧
    (m.o = true → fr ≤ x.hi → x.lo ≤ s.hi → 0 ≤ fr → ((mstep s m x).o = true ↔ x.hi + 1 ≤ s.hi) ∧ ((mstep s m x).o = true → inA (mstep s m x).h (mstep s m x).l ∧ numA ((mstep s m x).h, (mstep s m x).l) = x.hi + 1) ∧
      ((fr < x.lo ∧ ∃ t, (mstep s m x).out = m.out ++ [t] ∧ Vf f t ∧ t.lo = fr ∧ t.hi = x.lo - 1) ∨ (x.lo ≤ fr ∧ (mstep s m x).out = m.out))) := by
  have ex1 : numA (x.h, x.l) = x.lo := rfl
  have ex2 : numA (x.h', x.l') = x.hi := rfl
  have es2 : numA (s.h', s.l') = s.hi := rfl
  constructor
  · intro h
    unfold mstep
    rw [if_pos]
    rcases h with h | h | h
    · exact .inr (.inr h)
    · by_cases hm : m.o = true
      · obtain ⟨h1, h2⟩ := ho hm
        refine .inl ((cmpA_lt hx.b h1).2 ?_)
        rw [h2, ex2]; exact h
      · exact .inr (.inr (by simpa using hm))
    · exact .inr (.inl ((cmpA_gt hx.a hs.b).2 (by rw [ex1, es2]; exact h)))
  · intro hm h1 h2 h3
    obtain ⟨g1, g2⟩ := ho hm
    have e : ¬ (cmpA x.h' x.l' m.h m.l < 0 ∨ 0 < cmpA x.h x.l s.h' s.l' ∨ m.o = false) := by
      rintro (c | c | c)
      · have := (cmpA_lt hx.b g1).1 c; omega
      · have := (cmpA_gt hx.a hs.b).1 c; omega
      · rw [hm] at c; cases c
    have hn := nextA_num hx.b (cAddr6 x.h' x.l')
    have hp := prevA_num hx.a
    have hw : widN 6 = 128 := rfl
    rw [hw] at hn
    have hS := numA_lt hs.b (cAddr6 s.h' s.l')
    rw [hw] at hS
    unfold mstep
    rw [if_neg e]
    simp only
    refine ⟨?_, ?_, ?_⟩
    · rcases ltge (numA (x.h', x.l') + 1) (2 ^ 128) with hl | hl
      · obtain ⟨u, v, e1, e2, e3⟩ := hn.1 hl
        rw [e1]
        simp only [Bool.true_and, decide_eq_true_eq]
        rw [cmpA_le e3 hs.b, e2]
        exact Iff.rfl
      · rw [hn.2 hl]
        simp only [Bool.false_and, Bool.false_eq_true, false_iff]
        omega
    · rcases ltge (numA (x.h', x.l') + 1) (2 ^ 128) with hl | hl
      · obtain ⟨u, v, e1, e2, e3⟩ := hn.1 hl
        rw [e1]
        exact fun _ => ⟨e3, e2⟩
      · rw [hn.2 hl]
        simp only [Bool.false_and, Bool.false_eq_true, false_implies]
    · rcases ltge fr x.lo with hl | hl
      · left
        obtain ⟨u, v, e1, e2, e3⟩ := hp.1 (by omega)
        refine ⟨hl, ⟨m.h, m.l, u, v⟩, ?_, ?_, g2, e2⟩
        · rw [e1, if_pos]
          refine ⟨rfl, (cmpA_le g1 e3).2 ?_⟩
          omega
        · refine Vf.mk' hx.f46 g1 e3 ?_ ?_
          · show numA (m.h, m.l) ≤ numA (u, v); omega
          · have := hx.lt
            have := hx.le
            refine Int.lt_of_le_of_lt (b := x.hi) ?_ hx.lt
            show numA (u, v) ≤ _; omega
      · right
        refine ⟨hl, ?_⟩
        rw [if_neg]
        rintro ⟨c1, c2⟩
        rcases Int.lt_or_le 0 (numA (x.h, x.l)) with hz | hz
        · obtain ⟨u, v, e1, e2, e3⟩ := hp.1 hz
          rw [e1] at c2
          have := (cmpA_le g1 e3).1 c2
          omega
        · rw [hp.2 (by have := hx.nn; omega)] at c1
          cases c1
structure MI (f : Int) (s : SP) (out0 d : List SP) (m : MSt) (fr : Int) : Prop where
  o1 : m.o = true → inA m.h m.l ∧ numA (m.h, m.l) = fr ∧ s.lo ≤ fr ∧ fr ≤ s.hi
  o2 : m.o = true → ∀ x ∈ d, x.hi < fr ∨ s.hi < x.lo
  o3 : m.o = true → fr = s.lo ∨ ∃ x ∈ d, fr = x.hi + 1
  o4 : m.o = false → ∃ x ∈ d, s.hi ≤ x.hi
  v : ∀ t ∈ m.out, Vf f t
  p : m.out.Pairwise gapR
  h1 : ∀ t ∈ m.out, m.o = true → t.hi + 1 < fr
  h2 : ∀ t ∈ m.out, t.hi ≤ s.hi
  mm : ∀ N, mem m.out N ↔ mem out0 N ∨ (s.lo ≤ N ∧ N ≤ s.hi ∧ ¬ mem d N ∧ (m.o = true → N < fr))
theorem MI_step {f fr : Int} {s x : SP} {out0 d : List SP} {m : MSt} (hs : Vf f s) (hx : Vf f x) (hd : ∀ y ∈ d, gapR y x) (h : MI f s out0 d m fr) : ∃ fr', MI f s out0 (d ++ [x]) (mstep s m x) fr' := by
  have hxl := hx.le
  have hsl := hs.le
  have hsn := hs.nn
  have old : ∀ N, N < fr → m.o = true → s.lo ≤ N → ¬ (x.lo ≤ N ∧ N ≤ x.hi) := by
    intro N hN hm hl hc
    rcases h.o3 hm with e | ⟨y, hy, e⟩
    · omega
    · have := hd y hy
      unfold gapR at this
      omega
  obtain ⟨k1, k2⟩ := mstep_num (m := m) (fr := fr) hs hx (fun hm => ⟨(h.o1 hm).1, (h.o1 hm).2.1⟩)
  by_cases c : m.o = false ∨ x.hi < fr ∨ s.hi < x.lo
  · rw [k1 c]
    refine ⟨fr, h.o1, ?_, ?_, ?_, h.v, h.p, h.h1, h.h2, ?_⟩
    · intro hm y hy
      rcases List.mem_append.1 hy with hy | hy
      · exact h.o2 hm y hy
      · simp only [List.mem_singleton] at hy
        subst hy
        rcases c with c | c
        · rw [hm] at c; cases c
        · exact c
    · intro hm
      rcases h.o3 hm with e | ⟨y, hy, e⟩
      · exact .inl e
      · exact .inr ⟨y, by simp [hy], e⟩
    · intro hm
      obtain ⟨y, hy, e⟩ := h.o4 hm
      exact ⟨y, by simp [hy], e⟩
    · intro N
      rw [h.mm N, mem_append, mem_one]
      have key : s.lo ≤ N → N ≤ s.hi → (m.o = true → N < fr) → ¬ (x.lo ≤ N ∧ N ≤ x.hi) := by
        intro a1 a2 a3 a4
        cases hm : m.o
        · obtain ⟨y, hy, e⟩ := h.o4 hm
          have := hd y hy
          unfold gapR at this
          omega
        · exact old N (a3 hm) hm a1 a4
      constructor
      · rintro (a | ⟨a1, a2, a3, a4⟩)
        · exact .inl a
        · exact .inr ⟨a1, a2, fun hc => hc.elim a3 (key a1 a2 a4), a4⟩
      · rintro (a | ⟨a1, a2, a3, a4⟩)
        · exact .inl a
        · exact .inr ⟨a1, a2, fun hc => a3 (.inl hc), a4⟩
  · have hm : m.o = true := by
      cases hm : m.o
      · exact absurd (.inl hm) c
      · rfl
    have c1 : fr ≤ x.hi := by
      rcases Int.lt_or_le x.hi fr with g | g
      · exact absurd (.inr (.inl g)) c
      · exact g
    have c2 : x.lo ≤ s.hi := by
      rcases Int.lt_or_le s.hi x.lo with g | g
      · exact absurd (.inr (.inr g)) c
      · exact g
    obtain ⟨q1, q2, q3, q4⟩ := h.o1 hm
    obtain ⟨p1, p2, p3⟩ := k2 hm c1 c2 (by omega)
    generalize mstep s m x = m' at *
    have hmm : ∀ N, mem m'.out N ↔ mem m.out N ∨ (fr ≤ N ∧ N < x.lo) := by
      intro N
      rcases p3 with ⟨g, t, e1, e2, e3, e4⟩ | ⟨g, e⟩
      · rw [e1, mem_append, mem_one, e3, e4]
        constructor
        · rintro (a | a)
          · exact .inl a
          · exact .inr ⟨a.1, by omega⟩
        · rintro (a | a)
          · exact .inl a
          · exact .inr ⟨a.1, by omega⟩
      · rw [e]
        constructor
        · exact .inl
        · rintro (a | a)
          · exact a
          · omega
    have hin : ∀ t ∈ m'.out, t ∈ m.out ∨ (Vf f t ∧ t.lo = fr ∧ t.hi = x.lo - 1 ∧ fr < x.lo) := by
      intro t ht
      rcases p3 with ⟨g, t', e1, e2, e3, e4⟩ | ⟨g, e⟩
      · rw [e1] at ht
        rcases List.mem_append.1 ht with ht | ht
        · exact .inl ht
        · simp only [List.mem_singleton] at ht
          subst ht
          exact .inr ⟨e2, e3, e4, g⟩
      · rw [e] at ht; exact .inl ht
    refine ⟨x.hi + 1, ?_, ?_, ?_, ?_, ?_, ?_, ?_, ?_, ?_⟩
    · intro ho
      have := p2 ho
      have := p1.1 ho
      exact ⟨(p2 ho).1, (p2 ho).2, by omega, by omega⟩
    · intro ho y hy
      rcases List.mem_append.1 hy with hy | hy
      · have := hd y hy
        unfold gapR at this
        left; omega
      · simp only [List.mem_singleton] at hy
        subst hy
        left; omega
    · intro ho
      exact .inr ⟨x, by simp, rfl⟩
    · intro ho
      refine ⟨x, by simp, ?_⟩
      rcases Int.lt_or_le x.hi s.hi with g | g
      · have := p1.2 (by omega)
        rw [ho] at this; cases this
      · exact g
    · intro t ht
      rcases hin t ht with a | a
      · exact h.v t a
      · exact a.1
    · rcases p3 with ⟨g, t', e1, e2, e3, e4⟩ | ⟨g, e⟩
      · rw [e1]
        refine List.pairwise_append.2 ⟨h.p, List.pairwise_singleton _ _, fun u hu w hw => ?_⟩
        simp only [List.mem_singleton] at hw
        subst hw
        have := h.h1 u hu hm
        unfold gapR
        omega
      · rw [e]; exact h.p
    · intro t ht ho
      rcases hin t ht with a | a
      · have := h.h1 t a hm; omega
      · omega
    · intro t ht
      rcases hin t ht with a | a
      · exact h.h2 t a
      · omega
    · intro N
      rw [hmm N, h.mm N, mem_append, mem_one]
      constructor
      · rintro ((a | ⟨a1, a2, a3, a4⟩) | ⟨a1, a2⟩)
        · exact .inl a
        · have := a4 hm
          exact .inr ⟨a1, a2, fun hc => hc.elim a3 (old N this hm a1), fun _ => by omega⟩
        · refine .inr ⟨by omega, by omega, ?_, fun _ => by omega⟩
          rintro (⟨y, hy, b1, b2⟩ | b)
          · rcases h.o2 hm y hy with b | b <;> omega
          · omega
      · rintro (a | ⟨a1, a2, a3, a4⟩)
        · exact .inl (.inl a)
        · rcases Int.lt_or_le N fr with g | g
          · exact .inl (.inr ⟨a1, a2, fun hc => a3 (.inl hc), fun _ => g⟩)
          · right
            refine ⟨g, ?_⟩
            rcases Int.lt_or_le N x.lo with g2 | g2
            · exact g2
            · exfalso
              have g3 : ¬ N ≤ x.hi := fun g3 => a3 (.inr ⟨g2, g3⟩)
              have : x.hi + 1 ≤ s.hi := by omega
              have := a4 (p1.2 this)
              omega
theorem MI_fold {f : Int} {s : SP} {out0 : List SP} (hs : Vf f s) : ∀ (b d : List SP) (m : MSt) (fr : Int), (∀ x ∈ b, Vf f x) → (d ++ b).Pairwise gapR → MI f s out0 d m fr → ∃ fr', MI f s out0 (d ++ b) (b.foldl (mstep s) m) fr'
  | [], d, m, fr, _, _, h => ⟨fr, by simpa using h⟩
  | x :: b, d, m, fr, hb, hp, h => by
    have hd : ∀ y ∈ d, gapR y x := fun y hy => (List.pairwise_append.1 hp).2.2 y hy x (by simp)
    obtain ⟨fr', h'⟩ := MI_step hs (hb x (by simp)) hd h
    have := MI_fold hs b (d ++ [x]) (mstep s m x) fr' (fun y hy => hb y (by simp [hy])) (by simpa using hp) h'
    simpa using this
theorem m1_spec {f : Int} {s : SP} {b out : List SP} (hs : Vf f s) (hb : Nrm f b) (hv : ∀ t ∈ out, Vf f t) (hp : out.Pairwise gapR) (hlt : ∀ t ∈ out, t.hi + 1 < s.lo) :
    (∀ t ∈ m1 b out s, Vf f t ∧ t.hi ≤ s.hi) ∧ (m1 b out s).Pairwise gapR ∧ ∀ N, mem (m1 b out s) N ↔ mem out N ∨ ((s.lo ≤ N ∧ N ≤ s.hi) ∧ ¬ mem b N) := by
  have hsl := hs.le
  obtain ⟨fr, h⟩ := MI_fold (out0 := out) hs b [] ⟨s.h, s.l, true, out⟩ s.lo hb.v (by simpa using hb.p)
    ⟨fun _ => ⟨hs.a, rfl, Int.le_refl _, hs.le⟩, fun _ x hx => (by cases hx), fun _ => .inl rfl, fun h => (by cases h), hv, hp, fun t ht _ => hlt t ht, fun t ht => by have := hlt t ht; omega,
      fun N => ⟨.inl, fun h => h.elim id fun h => absurd (h.2.2.2 rfl) (by omega)⟩⟩
  rw [List.nil_append] at h
  have e : b.foldl (mstep s) ⟨s.h, s.l, true, out⟩ = mfold s b out := rfl
  rw [e] at h
  unfold m1
  generalize mfold s b out = m at *
  cases hm : m.o
  · rw [if_neg (by simp)]
    refine ⟨fun t ht => ⟨h.v t ht, h.h2 t ht⟩, h.p, fun N => ?_⟩
    rw [h.mm N]
    constructor
    · rintro (a | ⟨a1, a2, a3, a4⟩)
      · exact .inl a
      · exact .inr ⟨⟨a1, a2⟩, a3⟩
    · rintro (a | ⟨⟨a1, a2⟩, a3⟩)
      · exact .inl a
      · exact .inr ⟨a1, a2, a3, fun hc => by rw [hm] at hc; cases hc⟩
  · rw [if_pos rfl]
    obtain ⟨q1, q2, q3, q4⟩ := h.o1 hm
    have elo : SP.lo ⟨m.h, m.l, s.h', s.l'⟩ = fr := q2
    have ehi : SP.hi ⟨m.h, m.l, s.h', s.l'⟩ = s.hi := rfl
    refine ⟨fun t ht => ?_, ?_, fun N => ?_⟩
    · rcases List.mem_append.1 ht with ht | ht
      · exact ⟨h.v t ht, h.h2 t ht⟩
      · simp only [List.mem_singleton] at ht
        subst ht
        exact ⟨Vf.mk' hs.f46 q1 hs.b (by rw [elo, ehi]; exact q4) hs.lt, Int.le_refl _⟩
    · refine List.pairwise_append.2 ⟨h.p, List.pairwise_singleton _ _, fun u hu w hw => ?_⟩
      simp only [List.mem_singleton] at hw
      subst hw
      have := h.h1 u hu hm
      unfold gapR
      rw [elo]
      exact this
    · rw [mem_append, mem_one, h.mm N, elo, ehi]
      constructor
      · rintro ((a | ⟨a1, a2, a3, a4⟩) | ⟨a1, a2⟩)
        · exact .inl a
        · exact .inr ⟨⟨a1, a2⟩, a3⟩
        · refine .inr ⟨⟨by omega, a2⟩, ?_⟩
          rintro ⟨y, hy, b1, b2⟩
          rcases h.o2 hm y hy with b | b <;> omega
      · rintro (a | ⟨⟨a1, a2⟩, a3⟩)
        · exact .inl (.inl a)
        · rcases Int.lt_or_le N fr with g | g
          · exact .inl (.inr ⟨a1, a2, a3, fun _ => g⟩)
          · exact .inr ⟨g, a2⟩
theorem minS_fold {f : Int} {b : List SP} (hb : Nrm f b) : ∀ (a out : List SP), Nrm f a → Nrm f out → (∀ t ∈ out, ∀ s ∈ a, t.hi + 1 < s.lo) →
    Nrm f (a.foldl (m1 b) out) ∧ ∀ N, mem (a.foldl (m1 b) out) N ↔ mem out N ∨ (mem a N ∧ ¬ mem b N)
  | [], out, _, ho, _ => ⟨ho, fun N => ⟨.inl, fun h => h.elim id fun h => absurd h.1 mem_nil⟩⟩
  | s :: a, out, ha, ho, hx => by
    obtain ⟨ps, pa⟩ := List.pairwise_cons.1 ha.p
    obtain ⟨k1, k2, k3⟩ := m1_spec (ha.v s (by simp)) hb ho.v ho.p (fun t ht => hx t ht s (by simp))
    obtain ⟨r1, r2⟩ := minS_fold hb a (m1 b out s) ⟨fun t ht => ha.v t (by simp [ht]), pa⟩ ⟨fun t ht => (k1 t ht).1, k2⟩ (fun t ht u hu => by
      have := (k1 t ht).2
      have := ps u hu
      unfold gapR at this
      omega)
    refine ⟨r1, fun N => ?_⟩
    rw [List.foldl_cons, r2 N, k3 N, mem_cons]
    constructor
    · rintro ((a | ⟨a1, a2⟩) | ⟨a1, a2⟩)
      · exact .inl a
      · exact .inr ⟨.inl a1, a2⟩
      · exact .inr ⟨.inr a1, a2⟩
    · rintro (a | ⟨a1 | a1, a2⟩)
      · exact .inl (.inl a)
      · exact .inl (.inr ⟨a1, a2⟩)
      · exact .inr ⟨a1, a2⟩
/-- The difference holds what is in a and not in b. -/
theorem minS_spec {f : Int} {a b : List SP} (ha : Nrm f a) (hb : Nrm f b) : Nrm f (minS a b) ∧ ∀ N, mem (minS a b) N ↔ mem a N ∧ ¬ mem b N := by
  obtain ⟨h1, h2⟩ := minS_fold hb a [] ha ⟨fun s hs => (by cases hs), List.Pairwise.nil⟩ (fun t ht => by cases ht)
  exact ⟨h1, fun N => (h2 N).trans ⟨fun h => h.resolve_left mem_nil, .inr⟩⟩
end Go.Proofs.Ythfbddnpakhjiaa.AL
