import Derived.Test.YtkcmgjagjbiinaaC21nW8
import Derived.Test.YtkcmgjagjbiinaaC21nW9
import Derived.Test.YtkcmgjagjbiinaaC21nW7
/- What single functions compute: a part of the proof; no conditions. -/
set_option linter.unusedVariables false
set_option linter.unusedSimpArgs false
set_option linter.unusedSectionVars false
set_option maxRecDepth 100000
namespace Go.Proofs.Ytkcmgjagjbiinaa.AL
open Go
/-- A state with these temporaries over the heap of another. -/
def stF (l : List (Nat × V)) (u : St) (nt : Nat) : St := { tm := lkV l, hp := u.hp, nx := u.nx, nt := nt }
theorem stF_tm (l : List (Nat × V)) (u : St) (nt t : Nat) : (stF l u nt).tm t = lkV l t := nr rfl
theorem stF_hp (l : List (Nat × V)) (u : St) (nt : Nat) : (stF l u nt).hp = u.hp := nr rfl
theorem stF_nx (l : List (Nat × V)) (u : St) (nt : Nat) : (stF l u nt).nx = u.nx := nr rfl
theorem stF_nt (l : List (Nat × V)) (u : St) (nt : Nat) : (stF l u nt).nt = nt := nr rfl
theorem stF_top (l : List (Nat × V)) (u : St) (nt : Nat) : (stF l u nt).top = true := nr rfl
theorem stF_df (l : List (Nat × V)) (u : St) (nt : Nat) : (stF l u nt).df = [] := nr rfl
theorem stF_kp (l : List (Nat × V)) (u : St) (nt : Nat) : (stF l u nt).kp = true := nr rfl
attribute [simp ↓] stF_tm stF_hp stF_nx stF_nt stF_top stF_df stF_kp
theorem lkV_of {l : List (Nat × V)} {f : Nat → V} (h : ∀ p ∈ l, f p.1 = p.2) (t : Nat) : lkV l t = .junk ∨ lkV l t = f t := by
  induction l with
  | nil => left; rfl
  | cons p l ih =>
    obtain ⟨k, v⟩ := p
    simp only [lkV]
    by_cases e : t = k
    · subst e
      rw [if_pos rfl]
      exact .inr (h (t, v) List.mem_cons_self).symm
    · rw [if_neg e]
      exact ih fun p hp => h p (List.mem_cons_of_mem _ hp)
theorem Wk.stF {P : Program} [Gl P] {s : St} (l : List (Nat × V)) (u : St) (nt : Nat) (h : ∀ p ∈ l, s.tm p.1 = p.2) (e1 : u.hp = s.hp) (e2 : s.nx ≤ u.nx) (e3 : s.nt = nt) (e4 : s.top = true) (e5 : s.df = []) (e6 : s.kp = true) : Wk P s (stF l u nt) :=
  Wk.le ⟨fun t => lkV_of h t, fun b x hb => by have : u.hp b = some x := hb; rwa [e1] at this, e2, e3.symm, e4.symm, e5.symm, fun _ => e6⟩
theorem W.cutS {P : Program} [Gl P] {a b : Code} {s : St} {Q : AX → St → Prop} (S : St) (h1 : W P a s (thenA (fun s' => Wk P s' S) Q)) (h2 : W P b S Q) : W P (.seq a b) s Q :=
  W.seq (W.mono h1 fun e s' hq => by
    cases e with
    | normal => exact W.wk hq h2
    | _ => exact hq)
/-- The same heap, names ahead. -/
def bump (u : St) : St := { u with nx := u.nx + 1000 }
theorem bump_hp (u : St) : (bump u).hp = u.hp := nr rfl
theorem bump_nx (u : St) : (bump u).nx = u.nx + 1000 := nr rfl
attribute [simp ↓] bump_hp bump_nx
/-- A name below the next one is none of the new ones, however far. -/
theorem fresh2 {x n : Nat} (h : x < n) : (x = n) = False ∧ (n = x) = False ∧ (x < n) = True ∧ (∀ a, (x < n + a) = True) ∧ (∀ a b, (x < n + a + b) = True) ∧ (∀ a b c, (x < n + a + b + c) = True) ∧ (∀ a b c d, (x < n + a + b + c + d) = True) ∧
    (∀ a, (x = n + a) = False) ∧ (∀ a b, (x = n + a + b) = False) ∧ (∀ a b c, (x = n + a + b + c) = False) ∧ (∀ a b c d, (x = n + a + b + c + d) = False) ∧
    (∀ a, (n + a = x) = False) ∧ (∀ a b, (n + a + b = x) = False) ∧ (∀ a b c, (n + a + b + c = x) = False) ∧ (∀ a b c d, (n + a + b + c + d = x) = False) := by
  refine ⟨?_, ?_, ?_, ?_, ?_, ?_, ?_, ?_, ?_, ?_, ?_, ?_, ?_, ?_, ?_⟩ <;> intros <;> (apply propext; constructor <;> intro <;> first | trivial | omega)
/-- A name and those ahead of it. -/
theorem selfn (n : Nat) : (∀ b, (n = n + 8 + b) = False) ∧ (∀ b, (n + 8 + b = n) = False) ∧ (∀ b c, (n = n + 8 + b + c) = False) ∧ (∀ b c, (n + 8 + b + c = n) = False) ∧ (∀ b, (n < n + 8 + b) = True) ∧ (∀ b c, (n < n + 8 + b + c) = True) ∧ (∀ b c d, (n < n + 8 + b + c + d) = True) ∧ (n = n + 8) = False ∧ (n + 8 = n) = False ∧ (n < n + 8) = True := by
  refine ⟨?_, ?_, ?_, ?_, ?_, ?_, ?_, ?_, ?_, ?_⟩ <;> intros <;> (apply propext; constructor <;> intro <;> first | trivial | omega)
/-- The same, in a round of a loop over a function. -/
def stR (l : List (Nat × V)) (u : St) (nt : Nat) : St := { tm := lkV l, hp := u.hp, nx := u.nx, nt := nt, top := false }
theorem stR_tm (l : List (Nat × V)) (u : St) (nt t : Nat) : (stR l u nt).tm t = lkV l t := nr rfl
theorem stR_hp (l : List (Nat × V)) (u : St) (nt : Nat) : (stR l u nt).hp = u.hp := nr rfl
theorem stR_nx (l : List (Nat × V)) (u : St) (nt : Nat) : (stR l u nt).nx = u.nx := nr rfl
theorem stR_nt (l : List (Nat × V)) (u : St) (nt : Nat) : (stR l u nt).nt = nt := nr rfl
theorem stR_top (l : List (Nat × V)) (u : St) (nt : Nat) : (stR l u nt).top = false := nr rfl
theorem stR_df (l : List (Nat × V)) (u : St) (nt : Nat) : (stR l u nt).df = [] := nr rfl
theorem stR_kp (l : List (Nat × V)) (u : St) (nt : Nat) : (stR l u nt).kp = true := nr rfl
attribute [simp ↓] stR_tm stR_hp stR_nx stR_nt stR_top stR_df stR_kp
theorem Wk.stR {P : Program} [Gl P] {s : St} (l : List (Nat × V)) (u : St) (nt : Nat) (h : ∀ p ∈ l, s.tm p.1 = p.2) (e1 : u.hp = s.hp) (e2 : s.nx ≤ u.nx) (e3 : s.nt = nt) (e4 : s.top = false) (e5 : s.df = []) (e6 : s.kp = true) : Wk P s (stR l u nt) :=
  Wk.le ⟨fun t => lkV_of h t, fun b x hb => by have : u.hp b = some x := hb; rwa [e1] at this, e2, e3.symm, e4.symm, e5.symm, fun _ => e6⟩
end Go.Proofs.Ytkcmgjagjbiinaa.AL
namespace Go.Proofs.Ytkcmgjagjbiinaa.AL
open Go
attribute [local simp] qf cv qbin ibin sbin qun retPost rvOk ctV ctPost marksOk retV resAll resOf V.lt ltL V.ren renL V.exp V.exp1 cleanL V.clean closedL V.closed V.cells V.one V.tree
  loadV cellsAt isNC nilQ isSlD isIfD slNew ownRows ownCells V.isOwn slStore srcO qlook mlook mget mstr zval qnone qmake mput lmap isAggD placesOf fillV putCells lstore bound seqParts V.sh shL Blk.sh newV V.ok peqs peq srcRows qbytes byteSl appOk mmV mmR hidE V.fz fzL Blk.fz fzOk and_assoc
attribute [-simp] Int.not_le Int.not_lt Nat.not_le Nat.not_lt
/-- The depth of a round. -/
def rndD (n : Nat) (up : Bool) (k : Nat) : Nat := if up = true then n - 1 - k else k
/-- The indices of one round. -/
def selD (l : List HD) (up : Bool) (k i : Nat) : List Nat := (List.range i).filter fun j => decide (depN l j = rndD l.length up k)
def preD (l : List HD) (up : Bool) (k : Nat) : List Nat := (List.range k).flatMap fun j => selD l up j l.length
/-- The indices by depth. -/
def downL (l : List HD) (up : Bool) : List Nat := preD l up l.length
theorem preD_succ (l : List HD) (up : Bool) (k : Nat) : preD l up (k + 1) = preD l up k ++ selD l up k l.length := by
  simp [preD, List.range_succ]
theorem selD_succ (l : List HD) (up : Bool) (k i : Nat) : selD l up k (i + 1) = if depN l i = rndD l.length up k then selD l up k i ++ [i] else selD l up k i := by
  unfold selD
  rw [List.range_succ, List.filter_append]
  by_cases h : depN l i = rndD l.length up k <;> simp [h]
theorem selD_pre (l : List HD) (up : Bool) (k : Nat) : ∀ d i, i + d = l.length → selD l up k i <+: selD l up k l.length
  | 0, i, h => by have : i = l.length := by omega
                  subst this; exact List.prefix_refl _
  | d + 1, i, h => by
    refine List.IsPrefix.trans ?_ (selD_pre l up k d (i + 1) (by omega))
    rw [selD_succ]
    split
    · exact List.prefix_append _ _
    · exact List.prefix_refl _
theorem preD_pre (l : List HD) (up : Bool) : ∀ d k, k + d = l.length → preD l up k <+: downL l up
  | 0, k, h => by have : k = l.length := by omega
                  subst this; exact List.prefix_refl _
  | d + 1, k, h => by
    refine List.IsPrefix.trans ?_ (preD_pre l up d (k + 1) (by omega))
    rw [preD_succ]
    exact List.prefix_append _ _
/-- Whose turn it is. -/
theorem down_at {l : List HD} {up : Bool} {k i : Nat} (hk : k < l.length) (hi : i < l.length) (hd : depN l i = rndD l.length up k) : (downL l up)[(preD l up k ++ selD l up k i).length]? = some i := by
  have h1 : preD l up k ++ selD l up k (i + 1) <+: downL l up := by
    refine List.IsPrefix.trans ?_ (preD_pre l up (l.length - (k + 1)) (k + 1) (by omega))
    rw [preD_succ]
    exact (List.prefix_append_right_inj _).2 (selD_pre l up k (l.length - (i + 1)) (i + 1) (by omega))
  rw [selD_succ, if_pos hd, ← List.append_assoc] at h1
  obtain ⟨z, hz⟩ := h1
  rw [← hz, List.append_assoc, List.getElem?_append_right (Nat.le_refl _)]
  simp
def Same0 (s s' : St) : Prop := s'.hp = s.hp ∧ s.nx ≤ s'.nx
theorem Same0.refl (s : St) : Same0 s s := ⟨rfl, Nat.le_refl _⟩
/-- What the iterator does: for each index it calls yield; the caller brings what it keeps true. -/
def DownC : Ct := fun vs s K _ => ∃ (b : Nat) (t : TR) (l : List HD) (up : Bool), vs = [.yld b, .rptr t.cells 0, .rptr [.bool up] 0] ∧ t.d = depRows l l.length ∧ t.l.length = l.length ∧ l.length ≤ 1000 ∧ ∃ I : Nat → St → Prop, I 0 s ∧
    (∀ k i s0 s', (downL l up)[k]? = some i → i < l.length → I k s0 → Same0 s0 s' → CallY Try.prog b s' [.int .i64 (i : Int)]
      (fun v s'' => (v = .bool true ∧ I (k + 1) s'') ∨ (v = .bool false ∧ ∀ s3, Same0 s'' s3 → K (.tup []) s3)) noX) ∧
    (∀ s0 s', I (downL l up).length s0 → Same0 s0 s' → K (.tup []) s')
/-- Before a round of the iterator. -/
structure DnO (l : List HD) (up : Bool) (I : Nat → St → Prop) where
  u : St
  k : Nat
  le : k ≤ l.length
  inv : ∃ s0, I (preD l up k).length s0 ∧ Same0 s0 u
structure DnI (l : List HD) (up : Bool) (I : Nat → St → Prop) (k : Nat) where
  u : St
  i : Nat
  le : i ≤ l.length
  inv : ∃ s0, I (preD l up k ++ selD l up k i).length s0 ∧ Same0 s0 u
def dnT (b : Nat) (t : TR) (up : Bool) (n k : Nat) : List (Nat × V) := [(0, .yld b), (1, .rptr t.cells 0), (2, .rptr [.bool up] 0), (9, .int .i64 (n : Int)), (10, .int .i64 (k : Int))]
def M_f75 : Md := fun i => some #[]
@[simp] theorem M_f75_eq {i : Nat} : M_f75 i = (some #[]) := rfl
theorem down1_ok {vs : List V} {s : St} {K X : V → St → Prop} (hh : DownC vs s K X) : CallW Try.prog 75 s vs K X := by
  obtain ⟨b, t, l, up, rfl, htd, htl, hlen, I, hI0, hround, hfin⟩ := hh
  have hT : (T0.addY (Yself Try.prog)).ok Try.prog := Tab.addYself_ok (T0_ok _)
  refine CallW.of_body Try.func75 (by decide) rfl (by simp [Try.f75]) ?_
  refine W.seqE hT mixed M_f75 (by kernel_rfl) ?_
  simp [TR.cells, htl]
  refine W.block (W.loop (ι := DnO l up I) (fun i => stF (dnT b t up l.length i.k) i.u 42) (fun i => l.length - i.k) ⟨bump s, 0, by omega, s, by simpa [preD] using hI0, by simp, by simp⟩ ?_ ?_)
  · refine Wk.stF _ _ _ ?_ ?_ ?_ ?_ ?_ ?_ ?_
    all_goals simp [dnT, St.enter, initTm, TR.cells]
  · rintro ⟨u, k, hk, s0, hI, hsame⟩
    obtain ⟨hsame1, hsame2⟩ := hsame
    refine W.seqE hT mixed M_f75 (by kernel_rfl) ?_
    simp [dnT]
    by_cases hlt : k < l.length
    · have hw1 : IntKind.i64.wrap ((k : Int) + 1) = k + 1 := wr_i64 (by omega) (by omega)
      refine W.seqE hT mixed M_f75 (by kernel_rfl) ?_
      simp [hlt]
      obtain ⟨D, hD⟩ : ∃ D, D = rndD l.length up k := ⟨_, rfl⟩
      refine W.seq (W.block ?_)
      refine W.seqE hT mixed M_f75 (by kernel_rfl) ?_
      simp
      refine W.seqE hT mixed M_f75 (by kernel_rfl) ?_
      simp
      refine W.cutS (stF (dnT b t up l.length k ++ [(5, .int .i64 (D : Int))]) (bump u) 42) ?_ ?_
      · refine W.of_WE hT mixed M_f75 _ (by kernel_rfl) ?_
        cases up
        · have : D = k := hD
          subst this
          simp
          refine Wk.stF _ _ _ ?_ ?_ ?_ ?_ ?_ ?_ ?_
          all_goals simp [dnT, TR.cells]
        · have : D = l.length - 1 - k := hD
          have hw2 : IntKind.i64.wrap ((l.length : Int) - 1) = (l.length : Int) - 1 := wr_i64 (by omega) (by omega)
          have hw3 : IntKind.i64.wrap ((l.length : Int) - 1 - k) = (D : Int) := by rw [wr_i64 (by omega) (by omega)]; omega
          simp [TR.cells, htl, hw2, hw3]
          refine Wk.stF _ _ _ ?_ ?_ ?_ ?_ ?_ ?_ ?_
          all_goals simp [dnT, TR.cells]
      · refine W.seqE hT mixed M_f75 (by kernel_rfl) ?_
        simp [dnT, TR.cells, htl]
        refine W.block (W.loop (ι := DnI l up I k) (fun i => stF (dnT b t up l.length k ++ [(5, .int .i64 (D : Int)), (23, .int .i64 (l.length : Int)), (24, .int .i64 (i.i : Int))]) i.u 42) (fun i => l.length - i.i) ⟨bump (bump u), 0, by omega, s0, by simpa [selD] using hI, by simp [hsame1], by simp; omega⟩ ?_ ?_)
        · refine Wk.stF _ _ _ ?_ ?_ ?_ ?_ ?_ ?_ ?_
          all_goals simp [dnT, TR.cells]
        · rintro ⟨u2, i, hi, s1, hI1, hs1, hs2⟩
          by_cases hil : i < l.length
          · have hw3 : IntKind.i64.wrap ((i : Int) + 1) = i + 1 := wr_i64 (by omega) (by omega)
            have hdn : i < (depRows l l.length).length := by simp; exact hil
            refine W.of_WE hT mixed M_f75 _ (by kernel_rfl) ?_
            by_cases hd : depN l i = D
            · simp [dnT, hil, TR.cells, htd, depRow, hd, Yself]
              show CallY Try.prog _ _ _ _ _
              refine CallY.mono (hround _ i s1 _ (down_at hlt hil (hd.trans hD)) hil hI1 ⟨hs1, by simp; omega⟩) ?_ (fun _ _ h => h.elim)
              rintro v s2 (⟨rfl, hI2⟩ | ⟨rfl, hK⟩)
              · simp [hw3]
                refine ⟨⟨bump s2, i + 1, by omega, s2, ?_, by simp, by simp⟩, ?_, by simp; omega⟩
                · rw [selD_succ, if_pos (hd.trans hD)]; simpa [Nat.add_assoc] using hI2
                · refine Wk.stF _ _ _ ?_ ?_ ?_ ?_ ?_ ?_ ?_
                  all_goals first | (simp [dnT, TR.cells, htd]; done) | (simp [dnT, TR.cells, htd]; omega)
              · simp
                refine hK _ ⟨?_, ?_⟩
                · simp [St.unmark]
                · simp [St.unmark]; omega
            · have hdi : ¬ (depN l i : Int) = D := by omega
              simp [dnT, hil, TR.cells, htd, depRow, hdi, hw3]
              refine ⟨⟨bump u2, i + 1, by omega, s1, ?_, by simp [hs1], by simp; omega⟩, ?_, by simp; omega⟩
              · rw [selD_succ, if_neg (by rw [← hD]; exact hd)]; exact hI1
              · refine Wk.stF _ _ _ ?_ ?_ ?_ ?_ ?_ ?_ ?_
                all_goals first | (simp [dnT, TR.cells, htd]; done) | (simp [dnT, TR.cells, htd]; omega)
          · have hie : i = l.length := by omega
            subst hie
            refine W.of_WE hT mixed M_f75 _ (by kernel_rfl) ?_
            simp [dnT]
            refine W.of_WE hT mixed M_f75 _ (by kernel_rfl) ?_
            simp [hw1]
            refine ⟨⟨bump u2, k + 1, by omega, s1, ?_, by simp [hs1], by simp; omega⟩, ?_, by simp; omega⟩
            · rw [preD_succ]; exact hI1
            · refine Wk.stF _ _ _ ?_ ?_ ?_ ?_ ?_ ?_ ?_
              all_goals first | (simp [dnT, TR.cells, htd]; done) | (simp [dnT, TR.cells, htd]; omega)
    · have hke : k = l.length := by omega
      subst hke
      refine W.of_WE hT mixed M_f75 _ (by kernel_rfl) ?_
      simp
      refine hfin s0 _ hI ⟨?_, ?_⟩
      · simp [St.unmark, hsame1]
      · simp [St.unmark]; omega

end Go.Proofs.Ytkcmgjagjbiinaa.AL
namespace Go.Proofs.Ytkcmgjagjbiinaa.AL
open Go
attribute [local simp] qf cv qbin ibin sbin qun retPost rvOk ctV ctPost marksOk retV resAll resOf V.lt ltL V.ren renL V.exp V.exp1 cleanL V.clean closedL V.closed V.cells V.one V.tree
  loadV cellsAt isNC nilQ isSlD isIfD slNew ownRows ownCells V.isOwn slStore srcO qlook mlook mget mstr zval qnone qmake mput lmap isAggD placesOf fillV putCells lstore bound seqParts V.sh shL Blk.sh newV V.ok peqs peq srcRows qbytes byteSl appOk mmV mmR hidE V.fz fzL Blk.fz fzOk and_assoc
attribute [-simp] Int.not_le Int.not_lt Nat.not_le Nat.not_lt
/-- What a step does: the tree with the new resources, or an error. -/
def setR (l : List HD) (i : Nat) (r : RS) : List HD := l.set i ⟨(l.getD i HD0).n, (l.getD i HD0).p, r⟩
def appT (l : List HD) (n : ByteArray) (r : RS) : Except Int (List HD) :=
  if chkT l ≠ 0 then .error (chkT l) else if chkR r ≠ 0 then .error 8 else match plc (nmsL l) n with
    | none => .error 6
    | some i => if excT ⟨setR l i r, nmsL l, depRows l l.length⟩ ((setR l i r).getD i HD0) || (setR l i r).any (fun h => decide (h.p = n) && excT ⟨setR l i r, nmsL l, depRows l l.length⟩ h) then .error 26
      else .ok (setR l i r)
def inStp (n : ByteArray) (r : RS) : Prop := n.size ≤ 1000000 ∧ inRS r ∧ lenRS 1000000 r
instance (n : ByteArray) (r : RS) : Decidable (inStp n r) := by unfold inStp; infer_instance
def SApp : List V → Option Res
  | [.rd 5 rows, .agg [.str n, a, b, c]] => match hdsOf rows, rsOf [a, b, c] with
    | some l, some r => if inL l ∧ inStp n r then (match appT l n r with
      | .error e => some ⟨.tup [.nils, .int .i64 e], []⟩
      | .ok l' => some ⟨.tup [.rd 5 (hRows l'), .int .i64 0], []⟩) else none
    | _, _ => none
  | _ => none
theorem setR_len (l : List HD) (i : Nat) (r : RS) : (setR l i r).length = l.length := by simp [setR]
theorem inL_setR {l : List HD} {i : Nat} {r : RS} (hi : i < l.length) (hl : inL l) (hr : inRS r ∧ lenRS 1000000 r) : inL (setR l i r) := by
  refine ⟨fun h hh => ?_, by rw [setR_len]; exact hl.2⟩
  unfold setR at hh
  rcases List.mem_or_eq_of_mem_set hh with h1 | rfl
  · exact hl.1 h h1
  · have := hl.1 _ (List.getElem_mem hi)
    rw [hd_get hi]
    exact ⟨this.1, this.2.1, hr⟩
theorem setR_row {l : List HD} {i : Nat} {r : RS} (hi : i < l.length) : (hRows l).set i [.str l[i].n, .str l[i].p, .rd 4 (sRows r.l4), .rd 4 (sRows r.l6), .rd 2 (aRows r.la)] = hRows (setR l i r) := by
  unfold setR hRows
  rw [hd_get hi, List.map_set]; rfl
def M_f14 : Md := fun i => if i = 10 then some #[0, 1, 0, 0, 8, 24, 63, 127, 255] else if i = 11 then some #[0, 0, 2, 0, 14, 30, 63, 127, 255, 511, 255, 2047, 4095] else some #[]
@[simp] theorem M_f14_eq {i : Nat} : M_f14 i = (if i = 10 then some #[0, 1, 0, 0, 8, 24, 63, 127, 255] else if i = 11 then some #[0, 0, 2, 0, 14, 30, 63, 127, 255, 511, 255, 2047, 4095] else some #[]) := rfl
theorem runs_shrink_Apply : ∀ args r, SApp args = some r → Runs Try.prog 14 args r := by
  intro args r hh
  unfold SApp at hh
  split at hh
  · rename_i rows n a b c
    split at hh
    · rename_i l q hl hq
      split at hh
      · rename_i hin
        obtain ⟨hin, hn, hqi, hql⟩ := hin
        have h1 := parse_eq hdOf_eq hl
        have h2 := rsOf_eq hq
        simp only [RS.cells, List.cons.injEq, and_true] at h2
        obtain ⟨rfl, rfl, rfl⟩ := h2
        subst h1
        change Runs _ _ [.rd 5 (hRows l), _] _
        have hlen := hin.2
        by_cases hz : chkT l = 0
        · have ho := open_ok hin hz
          simp only [TR.cells, trL] at ho
          have hC := chkR_at hqi hql
          simp only [RS.cells] at hC
          have hT : ((T0.add 39 SOpen).add 40 SChkR).ok Try.prog := Tab.add_ok (Tab.add_ok (T0_ok _) runs_shrink_open) runs_resource_Check
          refine Runs.of_body Try.func14 (by decide) rfl (by simp [Try.f14]) ?_
          refine W.seqE hT mixed M_f14 (by kernel_rfl) ?_
          simp [Try.f14]
          refine W.cut True [(0, .rd 5 (hRows l)), (3, .ptr 0 0), (6, .ptr 1 0), (7, .int .i64 0)] [.box 28 [.str n, .rd 4 (sRows q.l4), .rd 4 (sRows q.l6), .rd 2 (aRows q.la)], .box 80 [.rd 5 (hRows l), .mrd (keysN (nmsL l)) (valsN l.length), .rd 1 (depRows l l.length)]] 58 ?_ ?_
          · refine W.of_WE hT mixed M_f14 _ (by kernel_rfl) ?_
            simp [ho]
          intro _
          unfold appT at hh
          rw [if_neg (by omega)] at hh
          refine W.seqE hT mixed M_f14 (by kernel_rfl) ?_
          simp
          by_cases hc : chkR q = 0
          · rw [if_neg (by omega)] at hh
            rw [hc] at hC
            refine W.seqE hT mixed M_f14 (by kernel_rfl) ?_
            simp [hC]
            have hm := mget_at l n
            cases hp : plc (nmsL l) n with
            | none =>
              rw [hp] at hh hm
              cases hh
              simp only [Option.map_none] at hm
              refine W.of_WE hT mixed M_f14 _ (by kernel_rfl) ?_
              simp [-zval, hm]
            | some i =>
              rw [hp] at hh hm
              simp only [Option.map_some] at hm
              have hil := plc_lt hp
              refine W.cut True [(0, .rd 5 (hRows l)), (3, .ptr 0 0), (6, .ptr 1 0), (8, .int .i64 (i : Int)), (9, .bool true)] [.box 28 [.str n, .rd 4 (sRows q.l4), .rd 4 (sRows q.l6), .rd 2 (aRows q.la)], .box 80 [.rd 5 (hRows l), .mrd (keysN (nmsL l)) (valsN l.length), .rd 1 (depRows l l.length)]] 58 ?_ ?_
              · refine W.of_WE hT mixed M_f14 _ (by kernel_rfl) ?_
                simp [-zval, hm]
              intro _
              refine W.seqE hT mixed M_f14 (by kernel_rfl) ?_
              simp
              have hcp : SCop [.rd 5 (hRows l)] = some ⟨.own 0, [.sl 5 52 (hRows l)]⟩ := by
                simp only [SCop, hRows_parse]; rw [if_pos ⟨hlen, fun h hh => (hin.1 h hh).2.2.2⟩]
              have htw := twn_at hql
              simp only [RS.cells] at htw
              have hT2 : ((T0.add 41 SCop).add 42 STwn).ok Try.prog := Tab.add_ok (Tab.add_ok (T0_ok _) runs_shrink_copied) runs_shrink_twin
              refine W.cut True [(3, .ptr 0 0), (6, .ptr 1 0), (8, .int .i64 (i : Int))] [.box 28 [.str n, .rd 4 (sRows q.l4), .rd 4 (sRows q.l6), .rd 2 (aRows q.la)], .box 80 [.own 2, .mrd (keysN (nmsL l)) (valsN l.length), .rd 1 (depRows l l.length)], .sl 5 52 (hRows l)] 58 ?_ ?_
              · refine W.of_WE hT2 mixed M_f14 _ (by kernel_rfl) ?_
                simp [hcp]
              intro _
              refine W.cut True [(3, .ptr 0 0), (6, .ptr 1 0), (8, .int .i64 (i : Int))] [.box 28 [.str n, .rd 4 (sRows q.l4), .rd 4 (sRows q.l6), .rd 2 (aRows q.la)], .box 80 [.own 2, .mrd (keysN (nmsL l)) (valsN l.length), .rd 1 (depRows l l.length)], .sl 5 52 (hRows (setR l i q))] 58 ?_ ?_
              · refine W.of_WE hT2 mixed M_f14 _ (by kernel_rfl) ?_
                have hsr := setR_row (r := q) hil
                simp [hil, htw, HD.row, hsr]
              intro _
              have hinT : inT ⟨setR l i q, nmsL l, depRows l l.length⟩ := ⟨by simp [setR_len], inL_setR hil hin ⟨hqi, hql⟩⟩
              have hil2 : i < (setR l i q).length := by rw [setR_len]; exact hil
              simp only at hh
              obtain ⟨T, hTT⟩ : ∃ T : TR, T = ⟨setR l i q, nmsL l, depRows l l.length⟩ := ⟨_, rfl⟩
              have hTl : T.l = setR l i q := by rw [hTT]
              rw [← hTT] at hinT hh
              have he1 := exc_at hinT (hinT.2.1 _ (List.getElem_mem (by rw [hTl]; exact hil2) : T.l[i]'(by rw [hTl]; exact hil2) ∈ T.l))
              rw [hd_get hil2] at hh
              have hrow : T.l[i]'(by rw [hTl]; exact hil2) = (setR l i q)[i] := by simp only [hTl]
              rw [hrow] at he1
              have hcells : T.cells = [.rd 5 (hRows (setR l i q)), .mrd (keysN (nmsL l)) (valsN l.length), .rd 1 (depRows l l.length)] := by rw [hTT]; simp [TR.cells]
              have hcon := runs_ContainsFunc_hd (g := 45) (S := SApp1) (fi := []) (caps := [.rptr [.str n, .rd 4 (sRows q.l4), .rd 4 (sRows q.l6), .rd 2 (aRows q.la)] 0, .rptr T.cells 0]) (p := fun h => decide (h.p = n) && excT T h) (l := setR l i q) runs_Apply_1 rfl rfl (by rw [setR_len]; exact hlen) (fun h hh => by
                simp only [List.nil_append, List.cons_append, SApp1, hdOf_row, trOf_cells]
                rw [if_pos ⟨hinT, hinT.2.1 h (by rw [hTl]; exact hh)⟩])
              have hco := oneS_self (args := [.rd 5 (hRows (setR l i q)), .fn 45 [] [.rptr [.str n, .rd 4 (sRows q.l4), .rd 4 (sRows q.l6), .rd 2 (aRows q.la)] 0, .rptr T.cells 0]]) (r := ⟨.bool ((setR l i q).any fun h => decide (h.p = n) && excT T h), []⟩)
              have hT3 : ((T0.add 43 SExc).add 44 (oneS _ _)).ok Try.prog := Tab.add_ok (Tab.add_ok (T0_ok _) runs_shrink_excess) (oneS_ok hcon)
              refine W.wk (Wk.freeze 2 (.sl 5 52 (hRows (setR l i q))) (by simp) (by simp)) ?_
              refine W.wk (Wk.freeze 1 (.box 80 T.cells) (by simp [hcells]) (by simp [hcells])) ?_
              refine W.wk (Wk.freeze 0 (.box 28 [.str n, .rd 4 (sRows q.l4), .rd 4 (sRows q.l6), .rd 2 (aRows q.la)]) (by simp) (by simp)) ?_
              rw [hcells] at he1 hco hcon
              refine W.of_WE hT3 mixed M_f14 _ (by kernel_rfl) ?_
              generalize hA : ((setR l i q).any fun h => decide (h.p = n) && excT T h) = AN at *
              simp only [HD.row] at he1
              cases hx : excT T (setR l i q)[i]
              · rw [hx] at he1 hh
                cases AN
                · simp at hh
                  subst hh
                  simp [hcells, hil2, HD.row, he1, hco]
                · simp at hh
                  subst hh
                  simp [hcells, hil2, HD.row, he1, hco]
              · rw [hx] at he1 hh
                simp at hh
                subst hh
                simp [hcells, hil2, HD.row, he1, hco]
          · rw [if_pos hc] at hh
            cases hh
            refine W.of_WE hT mixed M_f14 _ (by kernel_rfl) ?_
            simp [hC, hc]
        · unfold appT at hh
          rw [if_pos hz] at hh
          cases hh
          have ho := open_at hin
          have hz' : ¬ (opnE l).2.2 = 0 := hz
          have hT : (T0.add 39 SOpen).ok Try.prog := Tab.add_ok (T0_ok _) runs_shrink_open
          refine Runs.of_body Try.func14 (by decide) rfl (by simp [Try.f14]) ?_
          refine W.seqE hT mixed M_f14 (by kernel_rfl) ?_
          simp [Try.f14]
          refine W.cut True [(7, .int .i64 (opnE l).2.2)] [] 58 ?_ ?_
          · refine W.of_WE hT mixed M_f14 _ (by kernel_rfl) ?_
            simp [ho, opnR]
          intro _
          refine W.of_WE hT mixed M_f14 _ (by kernel_rfl) ?_
          simp [hz', chkT]
      · cases hh
    · cases hh
  · cases hh

end Go.Proofs.Ytkcmgjagjbiinaa.AL
namespace Go.Proofs.Ytkcmgjagjbiinaa.AL
open Go
attribute [local simp] qf cv qbin ibin sbin qun retPost rvOk ctV ctPost marksOk retV resAll resOf V.lt ltL V.ren renL V.exp V.exp1 cleanL V.clean closedL V.closed V.cells V.one V.tree
  loadV cellsAt isNC nilQ isSlD isIfD slNew ownRows ownCells V.isOwn slStore srcO qlook mlook mget mstr zval qnone qmake mput lmap isAggD placesOf fillV putCells lstore bound seqParts V.sh shL Blk.sh newV V.ok peqs peq srcRows qbytes byteSl appOk mmV mmR hidE V.fz fzL Blk.fz fzOk and_assoc
attribute [-simp] Int.not_le Int.not_lt Nat.not_le Nat.not_lt
def rRows (m : List RS) : List (List V) := m.map RS.cells
@[simp] theorem rRows_len (m : List RS) : (rRows m).length = m.length := by simp [rRows]
@[simp] theorem rRows_getElem {m : List RS} {k : Nat} (h : k < (rRows m).length) : (rRows m)[k] = (m[k]'(by rw [rRows_len] at h; exact h)).cells := by simp [rRows]
/-- A step. -/
structure SO where
  n : ByteArray
  r : RS
def SO.row (s : SO) : List V := [.str s.n, .rd 4 (sRows s.r.l4), .rd 4 (sRows s.r.l6), .rd 2 (aRows s.r.la)]
def oRowsS (l : List SO) : List (List V) := l.map SO.row
@[simp] theorem oRowsS_len (m : List SO) : (oRowsS m).length = m.length := by simp [oRowsS]
/-- Where the steps lie. -/
structure OutS (o : Nat) (st : List SO) (s : St) : Prop where
  ex : ∃ q, s.hp o = some (.box 45 [.own q]) ∧ s.hp q = some (.sl 4 28 (oRowsS st)) ∧ o ≠ q ∧ q < s.nx
/-- Nothing has turned below but what the steps lie in. -/
def KeepS (o : Nat) (s s' : St) : Prop := s.nx ≤ s'.nx ∧ ∀ x, x < s.nx → x ≠ o → (∀ q, s.hp o = some (.box 45 [.own q]) → x ≠ q) → s'.hp x = s.hp x
/-- One step more, unless there is nothing to do. -/
def addS (st : List SO) (h : HD) (b to : RS) : List SO := if sameR h.r b = true then st else st ++ [⟨h.n, to⟩]
def StepC : Ct := fun vs s K _ => ∃ (l : List HD) (i : Nat) (m : List RS) (to : RS) (o : Nat) (st : List SO) (h : HD) (b : RS),
  vs = [.rd 5 (hRows l), .int .i64 (i : Int), .agg to.cells, .rptr [.rd 3 (rRows m)] 0, .ptr o 0] ∧ l[i]? = some h ∧ m[i]? = some b ∧ lenRS 1000000 to ∧ lenRS 1000000 h.r ∧ lenRS 1000000 b ∧ o < s.nx ∧ st.length ≤ 10000000 ∧ OutS o st s ∧
  ∀ s', KeepS o s s' → OutS o (addS st h b to) s' → (∀ q, s'.hp o = some (.box 45 [.own q]) → s.hp o = some (.box 45 [.own q]) ∨ s.nx ≤ q) → K (.tup []) s'
def M_f54 : Md := fun i => if i = 1 then some #[0, 0, 3, 7, 15, 0, 0, 96, 224, 511, 1023] else if i = 2 then some #[0, 0, 0, 6, 14, 30, 0, 64, 254, 510, 1023, 2047] else some #[]
@[simp] theorem M_f54_eq {i : Nat} : M_f54 i = (if i = 1 then some #[0, 0, 3, 7, 15, 0, 0, 96, 224, 511, 1023] else if i = 2 then some #[0, 0, 0, 6, 14, 30, 0, 64, 254, 510, 1023, 2047] else some #[]) := rfl
theorem step_ok {vs : List V} {s : St} {K X : V → St → Prop} (hh : StepC vs s K X) : CallW Try.prog 54 s vs K X := by
  obtain ⟨l, i, m, to, o, st, h, b, rfl, hl, hm, lto, lh, lb, ho, hst, ⟨q, hb, hq, hoq, hqn⟩, hK⟩ := hh
  obtain ⟨hil, rfl⟩ := List.getElem?_eq_some_iff.1 hl
  obtain ⟨him, rfl⟩ := List.getElem?_eq_some_iff.1 hm
  have htw := twn_at lto
  have hsm : SSameR [.agg l[i].r.cells, .agg m[i].cells] = some ⟨.bool (sameR l[i].r m[i]), []⟩ := by
    simp only [SSameR, rsOf_cells]; rw [if_pos ⟨lh, lb⟩]
  simp only [RS.cells] at htw hsm
  have hT : ((T0.add 35 SSameR).add 42 STwn).ok Try.prog := Tab.add_ok (Tab.add_ok (T0_ok _) runs_resource_Same) runs_shrink_twin
  have zo := fresh2 ho
  have zq := fresh2 hqn
  have zn : (∀ b, (s.nx < s.nx + 8 + b) = True) ∧ (∀ b c, (s.nx < s.nx + 8 + b + c) = True) ∧ (∀ a b, (s.nx = s.nx + 8 + a + b) = False) ∧ (∀ a, (s.nx = s.nx + 8 + a) = False) := by
    refine ⟨?_, ?_, ?_, ?_⟩ <;> intros <;> (apply propext; constructor <;> intro <;> first | trivial | omega)
  refine CallW.of_body Try.func54 (by decide) rfl (by simp [Try.f54]) ?_
  cases hs : sameR l[i].r m[i]
  · rw [hs] at hsm
    have hadd : addS st l[i] m[i] to = st ++ [⟨l[i].n, to⟩] := by unfold addS; rw [hs]; simp
    rw [hadd] at hK
    have hrow : oRowsS (st ++ [⟨l[i].n, to⟩]) = oRowsS st ++ [[.str l[i].n, .rd 4 (sRows to.l4), .rd 4 (sRows to.l6), .rd 2 (aRows to.la)]] := by simp [oRowsS, SO.row]
    have hln : (oRowsS st).length ≤ 10000000 := by rw [oRowsS_len]; exact hst
    refine W.seqE hT mixed M_f54 (by kernel_rfl) ?_
    simp [RS.cells]
    refine W.seqE hT mixed M_f54 (by kernel_rfl) ?_
    simp [hil, him, HD.row, RS.cells, hsm, hb, zo]
    refine W.of_WE hT mixed M_f54 _ (by kernel_rfl) ?_
    simp [hil, him, HD.row, RS.cells, hsm, htw, hb, hq, zo, zq, zn, hoq, hoq.symm]
    refine ⟨by omega, by omega, hK _ ⟨?_, fun x hx hxo hxq => ?_⟩ ⟨s.nx + 8 + 88 + 80, ?_, ?_, by omega, ?_⟩ (fun z hz => ?_)⟩
    · simp [St.unmark]; omega
    · have zx := fresh2 hx
      have hxq' := hxq q hb
      simp [St.unmark, zx, hxo, hxq']
    · simp [St.unmark, zo, hoq, hoq.symm]
    · simp [St.unmark, zo, zq, hrow]
    · simp [St.unmark]
    · right
      simp [St.unmark, zo, hoq, hoq.symm] at hz
      omega
  · rw [hs] at hsm
    have hadd : addS st l[i] m[i] to = st := by unfold addS; rw [hs]; simp
    rw [hadd] at hK
    refine W.of_WE hT mixed M_f54 _ (by kernel_rfl) ?_
    simp [hil, him, HD.row, RS.cells, hsm, hb, zo]
    refine hK _ ⟨?_, fun x hx hxo hxq => ?_⟩ ⟨q, ?_, ?_, hoq, ?_⟩ (fun z hz => ?_)
    · simp [St.unmark]; omega
    · have zx := fresh2 hx
      simp [St.unmark, zx]
    · simp [St.unmark, zo, hb]
    · simp [St.unmark, zq, hq]
    · simp [St.unmark]; omega
    · left
      simpa [St.unmark, zo] using hz

end Go.Proofs.Ytkcmgjagjbiinaa.AL
namespace Go.Proofs.Ytkcmgjagjbiinaa.AL
open Go
attribute [local simp] qf cv qbin ibin sbin qun retPost rvOk ctV ctPost marksOk retV resAll resOf V.lt ltL V.ren renL V.exp V.exp1 cleanL V.clean closedL V.closed V.cells V.one V.tree
  loadV cellsAt isNC nilQ isSlD isIfD slNew ownRows ownCells V.isOwn slStore srcO qlook mlook mget mstr zval qnone qmake mput lmap isAggD placesOf fillV putCells lstore bound seqParts V.sh shL Blk.sh newV V.ok peqs peq srcRows qbytes byteSl appOk mmV mmR hidE V.fz fzL Blk.fz fzOk and_assoc
attribute [-simp] Int.not_le Int.not_lt Nat.not_le Nat.not_lt
/-- slices.Clone of rows of 4 cells. -/
theorem runs_Clone_set {rows : List (List V)} (hlen : rows.length ≤ 1000000) : Runs Try.prog 92 [.rd 4 rows] ⟨.own 0, [.sl 4 101 rows]⟩ := by
  refine Runs.of_body Try.func92 (by decide) rfl (by simp [Try.f92]) ?_
  refine W.seqE (T0_ok _) mixed M0 (by kernel_rfl) ?_
  simp [Try.f92]
  refine W.cut True [(0, .rd 4 rows)] [] 8 ?_ ?_
  · refine W.seqE (T0_ok _) mixed M0 (by kernel_rfl) ?_
    by_cases h : rows = []
    · subst h
      simp [Try.f92]
      refine W.cond_any (by simp) ?_ ?_
      · refine W.seqE (T0_ok _) mixed M0 (by kernel_rfl) ?_
        simp
        refine W.wk (Wk.adopt 2 4 101 (by omega) (by simp)) ?_
        refine W.of_WE (T0_ok _) mixed M0 _ (by kernel_rfl) ?_
        simp [Try.f92]
      · refine W.of_WE (T0_ok _) mixed M0 _ (by kernel_rfl) ?_
        simp
    · simp [Try.f92, h]
      refine W.of_WE (T0_ok _) mixed M0 _ (by kernel_rfl) ?_
      simp
  · intro _
    refine W.of_WE (T0_ok _) mixed M0 _ (by kernel_rfl) ?_
    simp [Try.f92]
    omega
open Classical in
/-- Clone, at these lists. -/
noncomputable def SClo (ls : List (List (List V))) : List V → Option Res
  | [.rd 4 rows] => if rows ∈ ls then some ⟨.own 0, [.sl 4 101 rows]⟩ else none
  | _ => none
theorem SClo_ok {ls : List (List (List V))} (h : ∀ rows ∈ ls, Runs Try.prog 92 [.rd 4 rows] ⟨.own 0, [.sl 4 101 rows]⟩) {args : List V} {r : Res} (hh : SClo ls args = some r) : Runs Try.prog 92 args r := by
  unfold SClo at hh
  split at hh
  · split at hh
    · rename_i hm; cases hh; exact h _ hm
    · cases hh
  · cases hh
theorem SClo_at {ls : List (List (List V))} {rows : List (List V)} (h : rows ∈ ls) : SClo ls [.rd 4 rows] = some ⟨.own 0, [.sl 4 101 rows]⟩ := by
  simp only [SClo]
  rw [if_pos h]

end Go.Proofs.Ytkcmgjagjbiinaa.AL
namespace Go.Proofs.Ytkcmgjagjbiinaa.AL
open Go
attribute [local simp] qf cv qbin ibin sbin qun retPost rvOk ctV ctPost marksOk retV resAll resOf V.lt ltL V.ren renL V.exp V.exp1 cleanL V.clean closedL V.closed V.cells V.one V.tree
  loadV cellsAt isNC nilQ isSlD isIfD slNew ownRows ownCells V.isOwn slStore srcO qlook mlook mget mstr zval qnone qmake mput lmap isAggD placesOf fillV putCells lstore bound seqParts V.sh shL Blk.sh newV V.ok peqs peq srcRows qbytes byteSl appOk mmV mmR hidE V.fz fzL Blk.fz fzOk and_assoc
attribute [-simp] Int.not_le Int.not_lt Nat.not_le Nat.not_lt
def narS (s : SP) : AS := ⟨IntKind.u32.wrap s.l, IntKind.u32.wrap s.l'⟩
def SNar1 : List V → Option Res
  | [.agg [.int .u64 h, .int .u64 l, .int .u64 h', .int .u64 l']] => some ⟨.agg (narS ⟨h, l, h', l'⟩).row, []⟩
  | _ => none
theorem runs_resource_narrow : ∀ args r, SNar1 args = some r → Runs Try.prog 94 args r := by
  intro args r hh
  unfold SNar1 at hh
  split at hh
  · cases hh
    refine Runs.of_body Try.func94 (by decide) rfl (by simp [Try.f94]) ?_
    refine W.of_WE (T0_ok _) mixed M0 _ (by kernel_rfl) ?_
    simp [Try.f94, AS.row, narS]
  · cases hh
theorem aRows_nar_snoc {l : List SP} {k : Nat} (hk : k < l.length) : aRows ((l.take k).map narS) ++ [(narS l[k]).row] = aRows ((l.take (k + 1)).map narS) := by
  rw [take_snoc' l k hk]; simp only [aRows, List.map_append, List.map_cons, List.map_nil]
def SConvN : List V → Option Res
  | [.rd 4 rows, .fn 94 [] []] => match spsOf rows with
    | some l => if l.length ≤ 1000000 then some ⟨.own 0, [.sl 2 68 (aRows (l.map narS))]⟩ else none
    | none => none
  | _ => none
theorem runs_convert_narrow : ∀ args r, SConvN args = some r → Runs Try.prog 93 args r := by
  intro args r hh
  unfold SConvN at hh
  split at hh
  · rename_i rows
    split at hh
    · rename_i l hl
      split at hh
      · rename_i hlen
        cases hh
        have h1 := parse_eq spOf_eq hl
        subst h1
        have hT : (T0.add 94 SNar1).ok Try.prog := Tab.add_ok (T0_ok _) runs_resource_narrow
        refine Runs.of_body Try.func93 (by decide) rfl (by simp [Try.f93]) ?_
        refine W.seqE hT mixed M0 (by kernel_rfl) ?_
        simp [Try.f93]
        refine W.seqE hT mixed M0 (by kernel_rfl) ?_
        simp [Try.f93]
        refine W.wk (Wk.adopt 5 2 68 (by omega) (by simp)) ?_
        refine W.cut True [(5, .own 0)] [.sl 2 68 (aRows (l.map narS))] 22 ?_ ?_
        · refine W.seqE hT mixed M0 (by kernel_rfl) ?_
          simp [Try.f93]
          refine W.block (W.for (fun k => True) (fun k => [(1, .fn 94 [] []), (5, .own 0), (8, .rd 4 (sRows l)), (9, .int .i64 l.length), (10, .int .i64 k)]) (fun k => [.sl 2 68 (aRows ((l.take k).map narS))]) 22 l.length trivial ?_ ?_)
          · simp [sRows, aRows]
          · intro k hk _
            refine W.of_WE hT mixed M0 _ (by kernel_rfl) ?_
            by_cases hlt : k < l.length
            · have hw1 : IntKind.i64.wrap ((k : Int) + 1) = k + 1 := wr_i64 (by omega) (by omega)
              have hsn := aRows_nar_snoc hlt
              have hlk : (aRows ((l.take k).map narS)).length ≤ 1000000 := by rw [aRows_len]; simp; omega
              generalize aRows ((l.take k).map narS) = R at *
              generalize aRows ((l.take (k + 1)).map narS) = R' at *
              simp only [AS.row, narS] at hsn
              simp [hlt, AS.row, SNar1, hw1, SP.row, narS]
              exact ⟨by omega, by omega, hsn⟩
            · have : k = l.length := by omega
              subst this
              simp
        · intro _
          refine W.of_WE hT mixed M0 _ (by kernel_rfl) ?_
          simp [Try.f93]
      · cases hh
    · cases hh
  · cases hh
def big3 (a b c : List SP) : Bool := decide (200 < a.length) || decide (200 < b.length) || decide (200 < c.length)
def SMade : List V → Option Res
  | [.agg [.rd 4 ra, .rd 4 rb, .rd 4 rc]] => match spsOf ra, spsOf rb, spsOf rc with
    | some a, some b, some c => if a.length ≤ 1000000 ∧ b.length ≤ 1000000 ∧ c.length ≤ 1000000 then
        (if big3 a b c = true then some ⟨.tup [.agg [.nils, .nils, .nils], .int .i64 4], []⟩
          else some ⟨.tup [.agg [.own 0, .own 1, .own 2], .int .i64 0], [.sl 4 101 (sRows a), .sl 4 101 (sRows b), .sl 2 68 (aRows (c.map narS))]⟩) else none
    | _, _, _ => none
  | _ => none
def pick3 {α : Type} (a b c : α) : Nat → α
  | 0 => a
  | 1 => b
  | _ => c
def M_f78 : Md := fun i => if i = 7 then some #[0, 1, 3, 0, 8, 31, 0, 64, 255, 511, 1023, 2047] else some #[]
@[simp] theorem M_f78_eq {i : Nat} : M_f78 i = (if i = 7 then some #[0, 1, 3, 0, 8, 31, 0, 64, 255, 511, 1023, 2047] else some #[]) := rfl
theorem runs_made : ∀ args r, SMade args = some r → Runs Try.prog 78 args r := by
  intro args r hh
  unfold SMade at hh
  split at hh
  · rename_i ra rb rc
    split at hh
    · rename_i a b c ha hb hc
      split at hh
      · rename_i hlen
        obtain ⟨la, lb, lc⟩ := hlen
        have h1 := parse_eq spOf_eq ha
        have h2 := parse_eq spOf_eq hb
        have h3 := parse_eq spOf_eq hc
        subst h1 h2 h3
        change Runs Try.prog 78 [.agg [.rd 4 (sRows a), .rd 4 (sRows b), .rd 4 (sRows c)]] r
        have ca := runs_Clone_set (rows := sRows a) (by simpa using la)
        have cb := runs_Clone_set (rows := sRows b) (by simpa using lb)
        have hcn : SConvN [.rd 4 (sRows c), .fn 94 [] []] = some ⟨.own 0, [.sl 2 68 (aRows (c.map narS))]⟩ := by
          simp only [SConvN, sRows_parse]; rw [if_pos lc]
        have hCl : ∀ args r, SClo [sRows a, sRows b] args = some r → Runs Try.prog 92 args r := fun args r h => SClo_ok (fun rows hr => by
          rcases List.mem_cons.1 hr with rfl | hr
          · exact ca
          · simp only [List.mem_singleton] at hr; subst hr; exact cb) h
        have e0 : SClo [sRows a, sRows b] [.rd 4 (sRows a)] = some ⟨.own 0, [.sl 4 101 (sRows a)]⟩ := SClo_at (by simp)
        have e1 : SClo [sRows a, sRows b] [.rd 4 (sRows b)] = some ⟨.own 0, [.sl 4 101 (sRows b)]⟩ := SClo_at (by simp)
        have hT : ((T0.add 92 (SClo [sRows a, sRows b])).add 93 SConvN).ok Try.prog := Tab.add_ok (Tab.add_ok (T0_ok _) hCl) runs_convert_narrow
        refine Runs.of_body Try.func78 (by decide) rfl (by simp [Try.f78]) ?_
        refine W.seqE hT mixed M_f78 (by kernel_rfl) ?_
        simp [Try.f78]
        by_cases hbig : big3 a b c = true
        · rw [if_pos hbig] at hh
          cases hh
          unfold big3 at hbig
          simp only [Bool.or_eq_true, decide_eq_true_eq] at hbig
          refine W.cut False [] [] 25 ?_ ?_
          · refine W.seqE hT mixed M_f78 (by kernel_rfl) ?_
            simp [Try.f78]
            refine W.block (W.for (fun k => (0 < k → ¬ 200 < a.length) ∧ (1 < k → ¬ 200 < b.length) ∧ k < 3) (fun k => [(1, .ptr 0 0), (2, .ptr 1 0), (6, .agg [.rd 4 (sRows a), .rd 4 (sRows b), .rd 4 (sRows c)]), (7, .int .i64 k)]) (fun k => [.box 110 [.rd 4 (sRows a), .rd 4 (sRows b), .rd 4 (sRows c)], .box 26 [.nils, .nils, .nils]]) 25 3 (by simp) ?_ ?_)
            · simp
            · intro k hk hJ
              refine W.of_WE hT mixed M_f78 _ (by kernel_rfl) ?_
              match k, hk, hJ with
              | 0, _, _ =>
                by_cases b1 : (200 : Int) < a.length
                · simp [b1]
                · have b1' : ¬ 200 < a.length := by omega
                  simp [b1]
                  exact ⟨by omega, rfl⟩
              | 1, _, hJ =>
                have g := hJ.1 (by omega)
                by_cases b1 : (200 : Int) < b.length
                · simp [b1]
                · have b1' : ¬ 200 < b.length := by omega
                  simp [b1]
                  exact ⟨by omega, by omega, rfl⟩
              | 2, _, hJ =>
                have g := hJ.1 (by omega)
                have g2 := hJ.2.1 (by omega)
                have b1 : (200 : Int) < c.length := by omega
                simp [b1]
              | 3, _, hJ => exact absurd hJ.2.2 (by omega)
          · intro h
            exact h.elim
        · rw [if_neg hbig] at hh
          cases hh
          unfold big3 at hbig
          simp only [Bool.or_eq_true, decide_eq_true_eq] at hbig
          refine W.cut True [(1, .ptr 0 0), (2, .ptr 1 0)] [.box 110 [.rd 4 (sRows a), .rd 4 (sRows b), .rd 4 (sRows c)], .box 26 [.nils, .nils, .nils]] 25 ?_ ?_
          · refine W.seqE hT mixed M_f78 (by kernel_rfl) ?_
            simp [Try.f78]
            refine W.block (W.for (fun k => True) (fun k => [(1, .ptr 0 0), (2, .ptr 1 0), (6, .agg [.rd 4 (sRows a), .rd 4 (sRows b), .rd 4 (sRows c)]), (7, .int .i64 k)]) (fun k => [.box 110 [.rd 4 (sRows a), .rd 4 (sRows b), .rd 4 (sRows c)], .box 26 [.nils, .nils, .nils]]) 25 3 trivial ?_ ?_)
            · simp
            · intro k hk _
              refine W.of_WE hT mixed M_f78 _ (by kernel_rfl) ?_
              have b1 : ¬ (200 : Int) < a.length := by omega
              have b2 : ¬ (200 : Int) < b.length := by omega
              have b3 : ¬ (200 : Int) < c.length := by omega
              match k, hk with
              | 0, _ => simp [b1]; rfl
              | 1, _ => simp [b2]; rfl
              | 2, _ => simp [b3]; rfl
              | 3, _ => simp
          · intro _
            refine W.of_WE hT mixed M_f78 _ (by kernel_rfl) ?_
            simp [Try.f78, e0, e1, hcn]
            exact ⟨18, 42, by decide, 66, by decide, by decide, by simp, by simp, by simp, rfl, rfl, rfl⟩
      · cases hh
    · cases hh
  · cases hh

end Go.Proofs.Ytkcmgjagjbiinaa.AL
namespace Go.Proofs.Ytkcmgjagjbiinaa.AL
open Go
attribute [local simp] qf cv qbin ibin sbin qun retPost rvOk ctV ctPost marksOk retV resAll resOf V.lt ltL V.ren renL V.exp V.exp1 cleanL V.clean closedL V.closed V.cells V.one V.tree
  loadV cellsAt isNC nilQ isSlD isIfD slNew ownRows ownCells V.isOwn slStore srcO qlook mlook mget mstr zval qnone qmake mput lmap isAggD placesOf fillV putCells lstore bound seqParts V.sh shL Blk.sh newV V.ok peqs peq srcRows qbytes byteSl appOk mmV mmR hidE V.fz fzL Blk.fz fzOk and_assoc
attribute [-simp] Int.not_le Int.not_lt Nat.not_le Nat.not_lt
def SInt : List V → Option Res
  | [.rd 4 ra, .rd 4 rb] => match spsOf ra, spsOf rb with
    | some a, some b => if a.length ≤ 1000 ∧ b.length ≤ 1000 then some ⟨.own 0, [.sl 4 101 (sRows (interS a b))]⟩ else none
    | _, _ => none
  | _ => none
/-- Where the walk through two lists stands. -/
structure IW (a b : List SP) where
  p : List SP
  q : List SP
  o : List SP
  eq : o ++ interS p q = interS a b
  len : o.length + p.length + q.length ≤ 2000
def M_f56 : Md := fun i => if i = 3 then some #[0, 1, 3, 7, 0, 16, 48, 112, 255, 0, 1023] else if i = 4 then some #[0, 1, 3, 7, 0, 16, 63, 127] else if i = 6 then some #[0, 1, 3, 7, 0, 16, 63, 127] else if i = 10 then some #[0, 1, 3, 7, 0, 16, 48, 112, 255, 511] else some #[]
@[simp] theorem M_f56_eq {i : Nat} : M_f56 i = (if i = 3 then some #[0, 1, 3, 7, 0, 16, 48, 112, 255, 0, 1023] else if i = 4 then some #[0, 1, 3, 7, 0, 16, 63, 127] else if i = 6 then some #[0, 1, 3, 7, 0, 16, 63, 127] else if i = 10 then some #[0, 1, 3, 7, 0, 16, 48, 112, 255, 511] else some #[]) := rfl
theorem runs_resource_inter : ∀ args r, SInt args = some r → Runs Try.prog 56 args r := by
  intro args r hh
  unfold SInt at hh
  split at hh
  · rename_i ra rb
    split at hh
    · rename_i a b ha hb
      split at hh
      · rename_i hlen
        cases hh
        have h1 := parse_eq spOf_eq ha
        have h2 := parse_eq spOf_eq hb
        subst h1 h2
        change Runs _ _ [.rd 4 (sRows a), .rd 4 (sRows b)] _
        have hT : (T0.add 79 SCompare).ok Try.prog := Tab.add_ok (T0_ok _) runs_number_Compare
        refine Runs.of_body Try.func56 (by decide) rfl (by simp [Try.f56]) ?_
        refine W.seqE hT mixed M_f56 (by kernel_rfl) ?_
        simp [Try.f56]
        refine W.seqE hT mixed M_f56 (by kernel_rfl) ?_
        simp
        refine W.wk (Wk.adopt 5 4 101 (by omega) (by simp)) ?_
        refine W.cut True [(5, .own 0)] [.sl 4 101 (sRows (interS a b))] 75 ?_ ?_
        · refine W.block (W.fam (ι := IW a b) (fun i => [(0, .rd 4 (sRows i.p)), (1, .rd 4 (sRows i.q)), (5, .own 0)]) (fun i => [.sl 4 101 (sRows i.o)]) 75 (fun i => i.p.length + i.q.length) ⟨a, b, [], rfl, by simp; omega⟩ ?_ ?_)
          · simp [sRows]
          · rintro ⟨p, q, o, heq, hl⟩
            match p, q, heq, hl with
            | [], q, heq, hl =>
              rw [interS_nl, List.append_nil] at heq
              refine W.of_WE hT mixed M_f56 _ (by kernel_rfl) ?_
              simp [heq]
            | x :: p, [], heq, hl =>
              rw [interS_nr, List.append_nil] at heq
              refine W.of_WE hT mixed M_f56 _ (by kernel_rfl) ?_
              simp [heq]
            | x :: p, y :: q, heq, hl =>
              rw [interS_cons, ← List.append_assoc] at heq
              have cp : sRows (x :: p) = [.int .u64 x.h, .int .u64 x.l, .int .u64 x.h', .int .u64 x.l'] :: sRows p := rfl
              have cq : sRows (y :: q) = [.int .u64 y.h, .int .u64 y.l, .int .u64 y.h', .int .u64 y.l'] :: sRows q := rfl
              simp only [List.length_cons] at hl
              have ho : (sRows o).length ≤ 2000 := by rw [sRows_len]; omega
              obtain ⟨C, hC⟩ : ∃ C, C = clipS x y := ⟨_, rfl⟩
              refine W.seqE hT mixed M_f56 (by kernel_rfl) ?_
              simp [cp, cq]
              refine W.block ?_
              refine W.cut True [(0, .rd 4 (sRows (x :: p))), (1, .rd 4 (sRows (y :: q))), (5, .own 0), (6, .ptr 1 0)] [.sl 4 101 (sRows o), .box 101 [.int .u64 x.h, .int .u64 x.l, .int .u64 x.h', .int .u64 x.l']] 75 ?_ ?_
              · refine W.of_WE hT mixed M_f56 _ (by kernel_rfl) ?_
                simp [cp, cq]
              intro _
              refine W.cut True [(0, .rd 4 (sRows (x :: p))), (1, .rd 4 (sRows (y :: q))), (5, .own 0), (6, .ptr 1 0)] [.sl 4 101 (sRows o), .box 101 [.int .u64 C.h, .int .u64 C.l, .int .u64 x.h', .int .u64 x.l']] 75 ?_ ?_
              · refine W.of_WE hT mixed M_f56 _ (by kernel_rfl) ?_
                by_cases c1 : 0 < cmpA y.h y.l x.h x.l
                · have e1 : C.h = y.h := by rw [hC]; simp only [clipS, if_pos c1]
                  have e2 : C.l = y.l := by rw [hC]; simp only [clipS, if_pos c1]
                  simp [cp, cq, SCompare, c1, e1, e2]
                · have e1 : C.h = x.h := by rw [hC]; simp only [clipS, if_neg c1]
                  have e2 : C.l = x.l := by rw [hC]; simp only [clipS, if_neg c1]
                  simp [cp, cq, SCompare, c1, e1, e2]
              intro _
              refine W.cut True [(0, .rd 4 (sRows (x :: p))), (1, .rd 4 (sRows (y :: q))), (5, .own 0), (6, .ptr 1 0)] [.sl 4 101 (sRows o), .box 101 [.int .u64 C.h, .int .u64 C.l, .int .u64 C.h', .int .u64 C.l']] 75 ?_ ?_
              · refine W.of_WE hT mixed M_f56 _ (by kernel_rfl) ?_
                by_cases c1 : cmpA y.h' y.l' x.h' x.l' < 0
                · have e1 : C.h' = y.h' := by rw [hC]; simp only [clipS, if_pos c1]
                  have e2 : C.l' = y.l' := by rw [hC]; simp only [clipS, if_pos c1]
                  simp [cp, cq, SCompare, c1, e1, e2]
                · have e1 : C.h' = x.h' := by rw [hC]; simp only [clipS, if_neg c1]
                  have e2 : C.l' = x.l' := by rw [hC]; simp only [clipS, if_neg c1]
                  simp [cp, cq, SCompare, c1, e1, e2]
              intro _
              have hone : (oneC x y).length ≤ 1 := by unfold oneC; split <;> simp
              refine W.cut True [(0, .rd 4 (sRows (x :: p))), (1, .rd 4 (sRows (y :: q))), (5, .own 0)] [.sl 4 101 (sRows (o ++ oneC x y))] 75 ?_ ?_
              · refine W.of_WE hT mixed M_f56 _ (by kernel_rfl) ?_
                by_cases c1 : cmpA C.h C.l C.h' C.l' ≤ 0
                · have e1 : sRows (o ++ oneC x y) = sRows o ++ [[.int .u64 C.h, .int .u64 C.l, .int .u64 C.h', .int .u64 C.l']] := by
                    unfold oneC isC
                    rw [← hC, decide_eq_true c1, if_pos rfl]
                    unfold sRows
                    rw [List.map_append]
                    rfl
                  rw [e1]
                  generalize sRows o = R at *
                  simp [cp, cq, SCompare, c1]
                  omega
                · have e1 : oneC x y = [] := by
                    unfold oneC isC
                    rw [← hC, decide_eq_false c1]
                    rfl
                  simp [cp, cq, SCompare, c1, e1]
              intro _
              refine W.of_WE hT mixed M_f56 _ (by kernel_rfl) ?_
              by_cases c1 : cmpA x.h' x.l' y.h' y.l' < 0
              · have hf : fstC x y = true := by unfold fstC; exact decide_eq_true c1
                rw [if_pos hf] at heq
                simp [cp, cq, SCompare, c1]
                have tk : List.take p.length (sRows p) = sRows p := List.take_of_length_le (by rw [sRows_len]; omega)
                exact ⟨by omega, ⟨p, y :: q, o ++ oneC x y, heq, by simp only [List.length_append, List.length_cons]; omega⟩, by simp, tk, cq.symm, rfl⟩
              · have hf : ¬ fstC x y = true := by unfold fstC; simpa using c1
                rw [if_neg hf] at heq
                simp [cp, cq, SCompare, c1]
                have tk : List.take q.length (sRows q) = sRows q := List.take_of_length_le (by rw [sRows_len]; omega)
                exact ⟨by omega, ⟨x :: p, q, o ++ oneC x y, heq, by simp only [List.length_append, List.length_cons]; omega⟩, by simp, cp.symm, tk, rfl⟩
        intro _
        refine W.of_WE hT mixed M_f56 _ (by kernel_rfl) ?_
        simp [Try.f56]
      · cases hh
    · cases hh
  · cases hh

end Go.Proofs.Ytkcmgjagjbiinaa.AL
namespace Go.Proofs.Ytkcmgjagjbiinaa.AL
open Go
attribute [local simp] qf cv qbin ibin sbin qun retPost rvOk ctV ctPost marksOk retV resAll resOf V.lt ltL V.ren renL V.exp V.exp1 cleanL V.clean closedL V.closed V.cells V.one V.tree
  loadV cellsAt isNC nilQ isSlD isIfD slNew ownRows ownCells V.isOwn slStore srcO qlook mlook mget mstr zval qnone qmake mput lmap isAggD placesOf fillV putCells lstore bound seqParts V.sh shL Blk.sh newV V.ok peqs peq srcRows qbytes byteSl appOk mmV mmR hidE V.fz fzL Blk.fz fzOk and_assoc
attribute [-simp] Int.not_le Int.not_lt Nat.not_le Nat.not_lt
theorem int_at {a b : List SP} (_ : ∀ s ∈ a, inSP s) (_ : ∀ s ∈ b, inSP s) (la : a.length ≤ 200) (lb : b.length ≤ 200) : SInt [.rd 4 (sRows a), .rd 4 (sRows b)] = some ⟨.own 0, [.sl 4 101 (sRows (interS a b))]⟩ := by
  simp only [SInt, sRows_parse]; rw [if_pos ⟨by omega, by omega⟩]
theorem interF_len : ∀ (n : Nat) (a b : List SP), (interF n a b).length ≤ n
  | 0, _, _ => by simp [interF]
  | n + 1, [], _ => by simp [interF]
  | n + 1, x :: a, [] => by simp [interF]
  | n + 1, x :: a, y :: b => by
    have h1 := interF_len n a (y :: b)
    have h2 := interF_len n (x :: a) b
    have h3 : (oneC x y).length ≤ 1 := by unfold oneC; split <;> simp
    simp only [interF, List.length_append]
    split <;> omega
theorem interS_len (a b : List SP) : (interS a b).length ≤ a.length + b.length := interF_len _ a b
theorem int_bd (a b : List SP) (la : a.length ≤ 200) (lb : b.length ≤ 200) : (interS a b).length ≤ 1000000 := by have := interS_len a b; omega
theorem made_at {a b c : List SP} (la : a.length ≤ 1000000) (lb : b.length ≤ 1000000) (lc : c.length ≤ 1000000) : SMade [.agg [.rd 4 (sRows a), .rd 4 (sRows b), .rd 4 (sRows c)]] =
    (if big3 a b c = true then some ⟨.tup [.agg [.nils, .nils, .nils], .int .i64 4], []⟩
          else some ⟨.tup [.agg [.own 0, .own 1, .own 2], .int .i64 0], [.sl 4 101 (sRows a), .sl 4 101 (sRows b), .sl 2 68 (aRows (c.map narS))]⟩) := by
  simp only [SMade, sRows_parse]
  rw [if_pos ⟨la, lb, lc⟩]

end Go.Proofs.Ytkcmgjagjbiinaa.AL
