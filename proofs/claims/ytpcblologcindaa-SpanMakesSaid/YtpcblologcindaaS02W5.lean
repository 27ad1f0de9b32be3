import Derived.Test.YtpcblologcindaaS02W4
/- What single functions compute: a part of the proof; no conditions. -/
set_option linter.unusedVariables false
set_option linter.unusedSimpArgs false
set_option maxRecDepth 100000
namespace Go.Proofs.Ytpcblologcindaa.AL
open Go
attribute [local simp] qf cv qbin ibin sbin qun retPost rvOk ctV ctPost marksOk retV resAll resOf V.lt ltL V.ren renL V.exp cleanL V.clean closedL V.closed V.cells V.one V.tree
  loadV cellsAt isAggD placesOf fillV putCells lstore bound seqParts V.sh shL Blk.sh newV V.ok peqs peq srcRows appOk V.fz fzL Blk.fz fzOk and_assoc
attribute [-simp] Int.not_le Int.not_lt Nat.not_le Nat.not_lt
theorem num_adr {f x y : Int} (hf : f = 4 ∨ f = 6) (hin : inA x y) (h1 : numA (x, y) < 2 ^ widN f) : cAddr f x y = true := by
  have h0 : 0 ≤ numA (x, y) := by unfold numA; have := hin.1; have := hin.2.2.1; simp only; omega
  have := (toA_adr hf h0 h1).2
  rw [toA_numA hin.2.2.1 hin.2.2.2] at this
  exact this
/-- The prefixes of a span, in order. -/
def wList (f h1 l1 h2 l2 : Int) : List (Int × Nat) := wthN (numA (h1, l1)) (numA (h2, l2)) (widN f) 0
/-- Nothing has turned but block c. -/
def But (c : Nat) (s s' : St) : Prop := s.nx ≤ s'.nx ∧ ∀ b, b < s.nx → b ≠ c → s'.hp b = s.hp b
/-- What the walk's iterator does: for each prefix it calls yield; the caller brings what it keeps true. -/
def AllC : Ct := fun vs s K _ => ∃ (b c : Nat) (f h1 l1 h2 l2 : Int), vs = [.yld b, .ptr c 0] ∧ s.hp c = some (.box 74 [.int .u8 f, .int .u64 h1, .int .u64 l1, .int .u64 h2, .int .u64 l2]) ∧ c < s.nx ∧
  inA h1 l1 ∧ inA h2 l2 ∧ chkS f h1 l1 h2 l2 = 0 ∧ ∃ I : Nat → St → Prop, I 0 s ∧
    (∀ k p s0 s', (wList f h1 l1 h2 l2)[k]? = some p → I k s0 → But c s0 s' → CallY Try.prog b s' [.agg (rowW f p).row]
      (fun v s'' => v = .bool true ∧ I (k + 1) s'' ∧ s'.nx ≤ s''.nx ∧ ∀ x, (x = c ∨ (s0.nx ≤ x ∧ x < s'.nx)) → s''.hp x = s'.hp x) noX) ∧
    (∀ s0 s', I (wList f h1 l1 h2 l2).length s0 → But c s0 s' → K (.tup []) s')
structure WAt (c : Nat) (f h2 l2 : Int) (L : List (Int × Nat)) (I : Nat → St → Prop) (u : St) (k : Nat) (h l : Int) : Prop where
  hp : u.hp c = some (.box 74 [.int .u8 f, .int .u64 h, .int .u64 l, .int .u64 h2, .int .u64 l2])
  lt : c < u.nx
  inv : ∃ s0, I k s0 ∧ But c s0 u
  hin : inA h l
  hc : cAddr f h l = true
  le : numA (h, l) ≤ numA (h2, l2)
  rest : L.drop k = wthN (numA (h, l)) (numA (h2, l2)) (widN f) 0
def walkSt (b c : Nat) (u : St) : St := { tm := fun t => if t = 0 then .yld b else if t = 1 then .ptr c 0 else .junk, hp := u.hp, nx := u.nx, nt := 28 }
@[simp] theorem walkSt_tm {b c : Nat} {u : St} {t : Nat} : (walkSt b c u).tm t = if t = 0 then .yld b else if t = 1 then .ptr c 0 else .junk := rfl
@[simp] theorem walkSt_hp {b c : Nat} {u : St} : (walkSt b c u).hp = u.hp := rfl
@[simp] theorem walkSt_nx {b c : Nat} {u : St} : (walkSt b c u).nx = u.nx := rfl
@[simp] theorem walkSt_nt {b c : Nat} {u : St} : (walkSt b c u).nt = 28 := rfl
@[simp] theorem walkSt_top {b c : Nat} {u : St} : (walkSt b c u).top = true := rfl
@[simp] theorem walkSt_df {b c : Nat} {u : St} : (walkSt b c u).df = [] := rfl
@[simp] theorem walkSt_kp {b c : Nat} {u : St} : (walkSt b c u).kp = true := rfl
structure WI (c : Nat) (f h2 l2 : Int) (L : List (Int × Nat)) (I : Nat → St → Prop) where
  u : St
  k : Nat
  h : Int
  l : Int
  at' : WAt c f h2 l2 L I u k h l
theorem walk_next {P : Program} [Gl P] {c : Nat} {f h2 l2 : Int} {L : List (Int × Nat)} {I : Nat → St → Prop} {s' : St} (b k : Nat) (x y : Int) (hk : k < L.length) (hw : WAt c f h2 l2 L I s' (k + 1) x y) (h0 : s'.tm 0 = .yld b) (h1 : s'.tm 1 = .ptr c 0)
    (h2' : s'.nt = 28) (h3 : s'.top = true) (h4 : s'.df = []) (h5 : s'.kp = true) : ∃ j : WI c f h2 l2 L I, Wk P s' (walkSt b c j.u) ∧ L.length - j.k < L.length - k := by
  refine ⟨⟨s', k + 1, x, y, hw⟩, Wk.le ⟨fun t => ?_, fun _ _ h => h, Nat.le_refl _, h2'.symm, h3.symm, h4.symm, fun _ => h5⟩, ?_⟩
  · show (if t = 0 then V.yld b else if t = 1 then V.ptr c 0 else V.junk) = .junk ∨ _
    by_cases e0 : t = 0
    · subst e0; right; rw [h0]; rfl
    · by_cases e1 : t = 1
      · subst e1; right; rw [h1]; rfl
      · left; rw [if_neg e0, if_neg e1]
  · show L.length - (k + 1) < L.length - k
    omega
def M_f47 : Md := fun i => if i = 1 then some #[0, 0, 3, 7, 15, 31, 63, 31, 159, 415, 1023, 2047, 4] else if i = 2 then some #[0, 1, 0, 4, 15, 31, 63, 63, 127, 383, 895] else some #[]
@[simp] theorem M_f47_eq {i : Nat} : M_f47 i = (if i = 1 then some #[0, 0, 3, 7, 15, 31, 63, 31, 159, 415, 1023, 2047, 4] else if i = 2 then some #[0, 1, 0, 4, 15, 31, 63, 63, 127, 383, 895] else some #[]) := rfl
theorem all1_ok {vs : List V} {s : St} {K X : V → St → Prop} (hh : AllC vs s K X) : CallW Try.prog 47 s vs K X := by
  obtain ⟨b, c, f, h1, l1, h2, l2, rfl, hbox, hlt, hin1, hin2, hchk, I, hI0, hround, hfin⟩ := hh
  obtain ⟨hc1, hc2, hle⟩ := chkS_zero hchk
  have h46 := chk_46 hchk
  have hT : ((((T0.add 48 SFirst).add 38 SLast).add 24 SNext).addY (Yself Try.prog)).ok Try.prog := Tab.addYself_ok (Tab.add_ok (Tab.add_ok (Tab.add_ok (T0_ok _) runs_span_walk_first) runs_span_last) runs_span_Next)
  refine CallW.of_body Try.func47 (by decide) rfl (by simp [Try.f47]) ?_
  obtain ⟨L, hL⟩ : ∃ L, L = wList f h1 l1 h2 l2 := ⟨_, rfl⟩
  rw [← hL] at hround hfin
  refine W.block (W.loop (ι := WI c f h2 l2 L I) (fun i => walkSt b c i.u) (fun i => L.length - i.k) ⟨s, 0, h1, l1, ⟨hbox, hlt, ⟨s, hI0, Nat.le_refl _, fun _ _ _ => rfl⟩, hin1, hc1, (cmpA_le hin1 hin2).1 hle, by rw [hL]; rfl⟩⟩ ?_ ?_)
  · refine Wk.le ⟨fun t => ?_, fun _ _ h => h, Nat.le_refl _, rfl, rfl, rfl, fun _ => rfl⟩
    right
    simp [St.enter, initTm]
    rcases t with _ | _ | t <;> simp
  · rintro ⟨u, k, h, l, hu⟩
    have hub := hu.hp
    have hul := hu.lt
    obtain ⟨s0, hI, hbut⟩ := hu.inv
    obtain ⟨g1, g2, g3, g4⟩ := fst_step hu.hin hin2 hu.hc hu.le
    have hcn : ∀ m, (c = u.nx + m) = False := fun m => by simp; omega
    have hchk' : chkS f h l h2 l2 = 0 := by
      unfold chkS
      rw [if_neg (by rw [wid0]; omega), if_pos ⟨hu.hc, hc2, (cmpA_le hu.hin hin2).2 hu.le⟩]
    have hfst : SFirst [.agg [.int .u8 f, .int .u64 h, .int .u64 l, .int .u64 h2, .int .u64 l2]] = some ⟨.agg [.int .u8 f, .int .u64 h, .int .u64 l, .int .i64 (fstN f h l h2 l2)], []⟩ := by
      simp only [SFirst]
      rw [if_pos ⟨hu.hin, hin2, hchk'⟩]
    have hw := widN_le f
    have hlastr := lastA_rng (k := widN f - fstN f h l h2 l2) hu.hin (by omega)
    have hlast : SLast [.agg [.int .u8 f, .int .u64 h, .int .u64 l, .int .i64 (fstN f h l h2 l2)]] = some ⟨.agg [.int .u64 (lastA h l (widN f - fstN f h l h2 l2)).1, .int .u64 (lastA h l (widN f - fstN f h l h2 l2)).2], []⟩ := by
      simp only [SLast, kw_wid hu.hc]
      rw [if_pos ⟨hu.hin, by omega, by omega⟩]
      rfl
    generalize fstN f h l h2 l2 = n at *
    refine W.block (W.seqE hT mixed M_f47 (by kernel_rfl) ?_)
    simp [Try.f47, hub, hcn, hfst]
    refine W.seq (W.seqE hT mixed M_f47 (by kernel_rfl) ?_)
    simp [Try.f47, hub, hcn, Yself]
    have hk : L[k]? = some (numA (h, l), widN f - n) := by
      have := hu.rest
      rw [g4] at this
      have e : (L.drop k)[0]? = some (numA (h, l), widN f - n) := by rw [this]; rfl
      simpa using e
    have hrow : (rowW f (numA (h, l), widN f - n)).row = [.int .u8 f, .int .u64 h, .int .u64 l, .int .i64 n] := by
      have e1 : (widN f : Int) - (widN f - n : Nat) = n := by omega
      simp [rowW, PF.row, toA_numA hu.hin.2.2.1 hu.hin.2.2.2, e1]
    show CallY _ _ _ _ _ _
    have hbut1 := hbut.1
    have hbut2 := hbut.2
    refine CallY.mono (K := fun v s'' => v = .bool true ∧ I (k + 1) s'' ∧ u.nx + 8 + 8 + 8 + 8 + 96 ≤ s''.nx ∧ s''.hp c = u.hp c ∧ s''.hp (u.nx + 8 + 8) = some (.box 26 [.int .u8 f, .int .u64 h, .int .u64 l, .int .i64 n])) (X := noX) ?_ ?_ (fun _ _ h => h.elim)
    · rw [← hrow]
      refine CallY.mono (hround k _ s0 _ hk hI ?_) ?_ (fun _ _ h => h)
      · refine ⟨?_, fun x hx hxc => ?_⟩
        · simp
          omega
        · have := hbut2 x hx hxc
          simp [show ¬ x = u.nx + 8 + 8 by omega]
          exact this
      · rintro v s2 ⟨rfl, hI2, hnx2, hkeep⟩
        refine ⟨rfl, hI2, by simpa using hnx2, ?_, ?_⟩
        · have hb2 := hkeep c (.inl rfl)
          simpa [show ¬ c = u.nx + 8 + 8 by omega] using hb2
        · have hp2 := hkeep (u.nx + 8 + 8) (.inr ⟨by omega, by simp⟩)
          simpa using hp2
    · rintro v s2 ⟨rfl, hI2, hnx2, hb2, hp2⟩
      rw [hub] at hb2
      have hc3 : c < s2.nx := by omega
      have hp3 : u.nx + 8 + 8 < s2.nx := by omega
      have hln : numA (lastA h l (widN f - n)) < 2 ^ widN f := by have := (numA_lt hin2 hc2).2; omega
      by_cases e : (lastA h l (widN f - n)).1 = h2 ∧ (lastA h l (widN f - n)).2 = l2
      · simp [Try.f47, hb2, hp2, hc3, hp3, hlast, e.1, e.2]
        refine W.of_WE hT mixed M_f47 _ (by kernel_rfl) ?_
        simp [Try.f47]
        have hb : numA (h2, l2) = numA (h, l) + 2 ^ (widN f - n) - 1 := by rw [← g2, ← e.1, ← e.2]
        have hlen : L.length = k + 1 := by
          have h1 := hu.rest
          rw [g4, wthN_empty (by omega)] at h1
          have h2 := congrArg List.length h1
          simp at h2
          omega
        refine hfin s2 _ (by rw [hlen]; exact hI2) ⟨?_, fun x hx hxc => ?_⟩
        · simp [St.unmark]
        · simp [St.unmark]
      · have e' : (decide ((lastA h l (widN f - n)).1 = h2) && decide ((lastA h l (widN f - n)).2 = l2)) = false := by simpa using e
        have hlt1 : numA (lastA h l (widN f - n)) < numA (h2, l2) := by
          rcases Int.lt_or_eq_of_le g3 with h3 | h3
          · omega
          · exfalso
            have : lastA h l (widN f - n) = (h2, l2) := numA_inj hlastr.2.2 hin2.2.2 (by rw [g2, h3])
            exact e ⟨by rw [this], by rw [this]⟩
        have hlc := num_adr h46 hlastr hln
        obtain ⟨x, y, hnx, hxy, hxin⟩ := (nextA_num hlastr hlc).1 (by
          have := (numA_lt hin2 hc2).2
          rw [show ((lastA h l (widN f - n)).1, (lastA h l (widN f - n)).2) = lastA h l (widN f - n) from rfl]
          omega)
        rw [show ((lastA h l (widN f - n)).1, (lastA h l (widN f - n)).2) = lastA h l (widN f - n) from rfl] at hxy
        have hnext : SNext [.int .u8 f, .agg [.int .u64 (lastA h l (widN f - n)).1, .int .u64 (lastA h l (widN f - n)).2]] = some ⟨.tup [.agg [.int .u64 x, .int .u64 y], .bool true], []⟩ := by
          simp only [SNext]
          rw [if_pos hlastr, hnx]
        have hxc : cAddr f x y = true := num_adr h46 hxin (by have := (numA_lt hin2 hc2).2; omega)
        have hle2 : numA (x, y) ≤ numA (h2, l2) := by omega
        have hkl : k < L.length := (List.getElem?_eq_some_iff.1 hk).1
        simp [Try.f47, hb2, hp2, hc3, hp3, hlast, e']
        refine W.of_WE hT mixed M_f47 _ (by kernel_rfl) ?_
        have hc5 : c < s2.nx + 96 := by omega
        have hp5 : u.nx + 8 + 8 < s2.nx + 96 := by omega
        simp
        refine W.of_WE hT mixed M_f47 _ (by kernel_rfl) ?_
        simp [Try.f47, hb2, hp2, hc5, hp5, hlast, hnext]
        refine walk_next b k x y hkl ⟨?_, ?_, ⟨s2, hI2, ?_, fun z hz hzc => ?_⟩, hxin, hxc, hle2, ?_⟩ ?_ ?_ ?_ ?_ ?_ ?_
        · simp
        · simp; omega
        · simp; omega
        · simp [hzc]
        · have h1 := hu.rest
          rw [g4] at h1
          have h2 : L.drop (k + 1) = (L.drop k).drop 1 := by rw [List.drop_drop]
          rw [h2, h1, List.drop_one, List.tail_cons, hxy, g2]
          congr 1
          omega
        all_goals simp

end Go.Proofs.Ytpcblologcindaa.AL
namespace Go.Proofs.Ytpcblologcindaa.AL
open Go
attribute [local simp] qf cv qbin ibin sbin qun retPost rvOk ctV ctPost marksOk retV resAll resOf V.lt ltL V.ren renL V.exp cleanL V.clean closedL V.closed V.cells V.one V.tree
  loadV cellsAt isAggD placesOf fillV putCells lstore bound seqParts V.sh shL Blk.sh newV V.ok peqs peq srcRows appOk V.fz fzL Blk.fz fzOk and_assoc
attribute [-simp] Int.not_le Int.not_lt Nat.not_le Nat.not_lt
def SAll : List V → Option Res
  | [.agg [.int .u8 f, .int .u64 h, .int .u64 l, .int .u64 h', .int .u64 l']] => some ⟨.fn 47 [] [.ptr 0 0], [.box 74 [.int .u8 f, .int .u64 h, .int .u64 l, .int .u64 h', .int .u64 l']]⟩
  | _ => none
theorem runs_span_walk_all : ∀ args r, SAll args = some r → Runs Try.prog 40 args r := by
  intro args r hh
  unfold SAll at hh
  split at hh
  · rename_i f h l h' l'
    cases hh
    refine Runs.of_body Try.func40 (by decide) rfl (by simp [Try.f40]) ?_
    refine W.of_WE (T0_ok _) mixed M0 _ (by kernel_rfl) ?_
    simp [Try.f40]
  · cases hh
/-- What the loop has gathered so far: block 0 leads to it. -/
def OutAt (rows : List (List V)) (u : St) : Prop := (rows = [] ∧ u.hp 0 = some (.box 49 [.nils])) ∨ ∃ o, 4 ≤ o ∧ o < u.nx ∧ u.hp 0 = some (.box 49 [.own o]) ∧ u.hp o = some (.sl 4 26 rows)
theorem runs_span_Prefixes : ∀ args r, SPre args = some r → Runs Try.prog 21 args r := by
  intro args r hh
  unfold SPre at hh
  split at hh
  · rename_i f h1 l1 h2 l2
    split at hh
    · rename_i hin
      obtain ⟨hin1, hin2⟩ := hin
      have hT : ((T0.add 28 SChkS).add 40 SAll).ok Try.prog := Tab.add_ok (Tab.add_ok (T0_ok _) runs_span_Check) runs_span_walk_all
      split at hh
      · rename_i hc
        cases hh
        refine Runs.of_body Try.func21 (by decide) rfl (by simp [Try.f21]) ?_
        refine W.cut True [(0, .int .u8 f), (3, .ptr 0 0)] [.box 44 [.int .u64 h1, .int .u64 l1, .int .u64 h2, .int .u64 l2]] 25 ?_ ?_
        · refine W.of_WE hT mixed M0 _ (by kernel_rfl) ?_
          simp [Try.f21]
        · intro _
          refine W.cut True [(0, .int .u8 f), (3, .ptr 0 0)] [.box 44 [.int .u64 h1, .int .u64 l1, .int .u64 h2, .int .u64 l2]] 25 ?_ ?_
          · refine W.of_WE hT mixed M0 _ (by kernel_rfl) ?_
            simp [Try.f21, SChkS, hin1, hin2, hc]
          · intro _
            refine W.seqE hT mixed M0 (by kernel_rfl) ?_
            simp [Try.f21]
            refine W.seq (W.cut True [(7, .ptr 0 0), (18, .fn 47 [] [.ptr 1 0])] [.box 49 [.nils], .box 74 [.int .u8 f, .int .u64 h1, .int .u64 l1, .int .u64 h2, .int .u64 l2]] 25 ?_ ?_)
            · refine W.of_WE hT mixed M0 _ (by kernel_rfl) ?_
              simp [Try.f21, SAll]
            · intro _
              refine W.block (W.rangeFunc' (n := 2) (by simp) (gf := 47) (fi := []) (caps := [.ptr 1 0]) (by simp) (by simp) Try.func47 (by decide) rfl ?_)
              intro fn Lp hLp
              refine all1_ok ⟨3, 1, f, h1, l1, h2, l2, rfl, by simp, by simp, hin1, hin2, hc, fun k u => OutAt (((wList f h1 l1 h2 l2).take k).map fun p => (rowW f p).row) u ∧ u.hp 3 = some (Lp .ready none) ∧ u.hp 2 = some (.obj (.deferred (some []))) ∧ 4 ≤ u.nx, ?_, ?_, ?_⟩
              · simp [OutAt]
              · intro k p s0 s' hp hI hbut
                obtain ⟨hout, hb3, hb2, hn4⟩ := hI
                obtain ⟨hbn, hbo⟩ := hbut
                have e3 : s'.hp 3 = some (Lp .ready none) := by rw [hbo 3 (by omega) (by decide)]; exact hb3
                have e2 : s'.hp 2 = some (.obj (.deferred (some []))) := by rw [hbo 2 (by omega) (by decide)]; exact hb2
                have e0 : s'.hp 0 = s0.hp 0 := hbo 0 (by omega) (by decide)
                have htk : (((wList f h1 l1 h2 l2).take (k + 1)).map fun p => (rowW f p).row) = (((wList f h1 l1 h2 l2).take k).map fun p => (rowW f p).row) ++ [(rowW f p).row] := by
                  rw [List.take_add_one, hp]; simp
                have hlen : (((wList f h1 l1 h2 l2).take k).map fun p => (rowW f p).row).length ≤ 300 := by
                  have := wthN_len (a := numA (h1, l1)) (b := numA (h2, l2)) (k := widN f) (N := 0)
                  have hw := widN_le f
                  have e : wList f h1 l1 h2 l2 = wthN (numA (h1, l1)) (numA (h2, l2)) (widN f) 0 := rfl
                  rw [e]; simp; omega
                simp only [htk]
                generalize (((wList f h1 l1 h2 l2).take k).map fun p => (rowW f p).row) = rows at hout hlen ⊢
                refine CallY.of_loop' hLp e3 rfl (by simp) ?_
                refine W.of_WE (T0_ok _) mixed M0 _ (by kernel_rfl) ?_
                have z3 := fresh_ne (show 3 < s'.nx by omega)
                have z0 := fresh_ne (show 0 < s'.nx by omega)
                have z1 := fresh_ne (show 1 < s'.nx by omega)
                have z2 := fresh_ne (show 2 < s'.nx by omega)
                rcases hout with ⟨hr, h0⟩ | ⟨o, ho4, ho, h0, hob⟩
                · rw [h0] at e0
                  simp [rowW, PF.row, e3, z3]
                  refine W.of_WE (T0_ok _) mixed M0 _ (by kernel_rfl) ?_
                  simp [rowW, PF.row, e3, e2, e0, z3, z0, z2, z1]
                  subst hr
                  refine ⟨.inr ⟨s'.nx + 8 + 8 + 8 + 8 + 8, by omega, by simp, by simp [z0, z3], by simp [z0, z3]⟩, by omega, ?_⟩
                  intro x hx1 hx2
                  have zx := fresh_ne hx2
                  simp [zx, show ¬ x = 3 by omega, show ¬ x = 0 by omega]
                · rw [h0] at e0
                  have eo : s'.hp o = some (.sl 4 26 rows) := by rw [hbo o ho (by omega)]; exact hob
                  have zo := fresh_ne (show o < s'.nx by omega)
                  simp [rowW, PF.row, e3, z3]
                  refine W.of_WE (T0_ok _) mixed M0 _ (by kernel_rfl) ?_
                  simp [rowW, PF.row, e3, e0, eo, z3, z0, zo, show ¬ o = 0 by omega, show ¬ o = 3 by omega, show ¬ 3 = o by omega, show ¬ 0 = o by omega, e2, z1, z2, show ¬ 1 = o by omega, show ¬ 2 = o by omega]
                  refine ⟨by omega, by omega, .inr ⟨s'.nx + 8 + 8 + 8 + 8 + 8, by omega, by simp, by simp [z0, z3, zo, show ¬ o = 0 by omega], by simp [z0, z3, zo]⟩, by omega, ?_⟩
                  intro x hx1 hx2
                  have zx := fresh_ne hx2
                  simp [zx, show ¬ x = 3 by omega, show ¬ x = 0 by omega, show ¬ x = o by omega]
              · intro s0 s' hI hbut
                obtain ⟨hout, hb3, hb2, hn4⟩ := hI
                obtain ⟨hbn, hbo⟩ := hbut
                have e3 : s'.hp 3 = some (Lp .ready none) := by rw [hbo 3 (by omega) (by decide)]; exact hb3
                have e2 : s'.hp 2 = some (.obj (.deferred (some []))) := by rw [hbo 2 (by omega) (by decide)]; exact hb2
                have e0 : s'.hp 0 = s0.hp 0 := hbo 0 (by omega) (by decide)
                rw [List.take_length] at hout
                have hne : ((wList f h1 l1 h2 l2).map fun p => (rowW f p).row) ≠ [] := by
                  obtain ⟨hc1, hc2, hle⟩ := chkS_zero hc
                  have := (fst_step (f := f) hin1 hin2 hc1 ((cmpA_le hin1 hin2).1 hle)).2.2.2
                  simp only [wList]
                  rw [this]
                  simp
                obtain ⟨o, ho4, ho, h0, hob⟩ := hout.resolve_left (fun h => hne h.1)
                rw [h0] at e0
                have eo : s'.hp o = some (.sl 4 26 ((wList f h1 l1 h2 l2).map fun p => (rowW f p).row)) := by rw [hbo o ho (by omega)]; exact hob
                refine ⟨.ready, none, e3, by simp, ?_⟩
                show W _ _ _ _
                refine W.of_WE (T0_ok _) mixed M0 _ (by kernel_rfl) ?_
                simp [e0, e2, eo]
                exact ⟨o, by omega, by omega, eo, rfl⟩
      · rename_i hc
        cases hh
        refine Runs.of_body Try.func21 (by decide) rfl (by simp [Try.f21]) ?_
        refine W.seqE hT mixed M0 (by kernel_rfl) ?_
        simp [Try.f21]
        refine W.cut False [] [] 25 ?_ (fun h => h.elim)
        refine W.of_WE hT mixed M0 _ (by kernel_rfl) ?_
        simp [Try.f21, SChkS, hin1, hin2, hc]
    · cases hh
  · cases hh

end Go.Proofs.Ytpcblologcindaa.AL
namespace Go.Proofs.Ytpcblologcindaa.AL
open Go
attribute [local simp] qf cv qbin ibin sbin qun retPost rvOk ctV ctPost marksOk retV resAll resOf V.lt ltL V.ren renL V.exp cleanL V.clean closedL V.closed V.cells V.one V.tree
  loadV cellsAt isAggD placesOf fillV putCells lstore bound seqParts V.sh shL Blk.sh newV V.ok peqs peq srcRows appOk V.fz fzL Blk.fz fzOk and_assoc
attribute [-simp] Int.not_le Int.not_lt Nat.not_le Nat.not_lt
theorem Runs.weak {P : Program} [Gl P] {f : FuncId} {args args' : List V} {r : Res} (h : ∀ E vs, RL E args vs → RL E args' vs) (hr : Runs P f args' r) : Runs P f args r := fun E vs h1 h2 h3 h4 => hr E vs h1 h2 h3 (h E vs h4)
theorem R_nils_rd {E : Env} {v : Value} (sz : Nat) (h : R E .nils v) : R E (.rd sz []) v := by
  simp only [R] at h ⊢
  subst h
  exact ⟨none, 0, rfl, Nat.le_refl _, Nat.zero_le _, by simp⟩
def SSame2 : List V → Option Res
  | [.nils, .nils] => some ⟨.bool true, []⟩
  | x => SSameP x
theorem runs_same2 : ∀ args r, SSame2 args = some r → Runs Try.prog 23 args r := by
  intro args r hh
  unfold SSame2 at hh
  split at hh
  · cases hh
    refine Runs.weak (args' := [.rd 4 [], .rd 4 []]) ?_ (runs_ref02_SamePrefixes _ _ (by simp [SSameP, pfsOf]))
    intro E vs h
    simp only [RL] at h ⊢
    obtain ⟨v, vs', rfl, h1, w, vs'', rfl, h2, rfl⟩ := h
    exact ⟨v, _, rfl, R_nils_rd 4 h1, w, _, rfl, R_nils_rd 4 h2, rfl⟩
  · exact runs_ref02_SamePrefixes _ _ hh
def M_f4 : Md := fun i => if i = 11 then some #[0, 0, 3, 7, 15, 15, 63, 127, 255, 511, 511, 2047, 4095, 8191, 16383, 16383, 65535, 131071, 262143, 524287, 524287, 2097151, 524287, 524287, 16777215, 33554431, 67108863, 134217727] else some #[]
@[simp] theorem M_f4_eq {i : Nat} : M_f4 i = (if i = 11 then some #[0, 0, 3, 7, 15, 15, 63, 127, 255, 511, 511, 2047, 4095, 8191, 16383, 16383, 65535, 131071, 262143, 524287, 524287, 2097151, 524287, 524287, 16777215, 33554431, 67108863, 134217727] else some #[]) := rfl
theorem spanMakes_runs : ∀ As, ArgsV Try.prog Try.f4.params.toList [[.int .u8], [.int .u64, .int .u64, .int .u64, .int .u64], [.int .u64, .int .u64], [.int .u8, .int .u64, .int .u64, .int .i64]] As → Runs Try.prog 4 As ⟨.bool true, []⟩ := by
  intro As h
  simp [Try.f4, ArgsV, LSh, VSh, argV] at h
  obtain ⟨_, _, rfl, ⟨_, rfl, f, rfl, hf⟩, _, _, rfl, ⟨_, _, rfl, ⟨h1, rfl, hh1⟩, _, _, rfl, ⟨l1, rfl, hl1⟩, _, _, rfl, ⟨h2, rfl, hh2⟩, _, rfl, l2, rfl, hl2⟩, _, _, rfl, ⟨_, _, rfl, ⟨ah, rfl, hah⟩, _, rfl, al, rfl, hal⟩,
    _, rfl, _, _, rfl, ⟨pf, rfl, hpf⟩, _, _, rfl, ⟨ph, rfl, hph⟩, _, _, rfl, ⟨pl, rfl, hpl⟩, _, rfl, pn, rfl, hpn⟩ := h
  have i1 : inA h1 l1 := ⟨(u64_rng hh1).1, (u64_rng hh1).2, (u64_rng hl1).1, (u64_rng hl1).2⟩
  have i2 : inA h2 l2 := ⟨(u64_rng hh2).1, (u64_rng hh2).2, (u64_rng hl2).1, (u64_rng hl2).2⟩
  have ia : inA ah al := ⟨(u64_rng hah).1, (u64_rng hah).2, (u64_rng hal).1, (u64_rng hal).2⟩
  have ip : inA ph pl := ⟨(u64_rng hph).1, (u64_rng hph).2, (u64_rng hpl).1, (u64_rng hpl).2⟩
  let T := ((((((((((T0.add 19 SOf).add 20 SOf).add 21 SPre).add 22 SPre).add 23 SSame2).add 24 SNext).add 25 SNext).add 26 SPrev).add 27 SPrev).add 28 SChkS).add 29 SChkS
  have hT : T.ok Try.prog := Tab.add_ok (Tab.add_ok (Tab.add_ok (Tab.add_ok (Tab.add_ok (Tab.add_ok (Tab.add_ok (Tab.add_ok (Tab.add_ok (Tab.add_ok (Tab.add_ok (T0_ok _) runs_span_Of) runs_ref02_Of) runs_span_Prefixes) runs_ref02_Prefixes) runs_same2) runs_span_Next) runs_ref02_Next) runs_span_Prev) runs_ref02_Prev) runs_span_Check) runs_ref02_Check
  obtain ⟨rof, hof⟩ : ∃ x, SOf [.agg [.int .u8 pf, .int .u64 ph, .int .u64 pl, .int .i64 pn]] = some x ∧ ∃ c0 c1 c2 c3 c4, x = ⟨.tup [.agg [.int .u64 c0, .int .u64 c1, .int .u64 c2, .int .u64 c3], .int .i64 c4], []⟩ := by
    simp only [SOf, if_pos ip]
    split <;> exact ⟨_, rfl, _, _, _, _, _, rfl⟩
  obtain ⟨hof, c0, c1, c2, c3, c4, rfl⟩ := hof
  refine Runs.of_body Try.func4 (by decide) rfl (by simp [Try.f4]) ?_
  refine W.of_WE hT mixed M_f4 _ (by kernel_rfl) ?_
  by_cases hc : chkS f h1 l1 h2 l2 = 0
  · have hsame : SSame2 [.rd 4 (wRows f (numA (h1, l1)) (numA (h2, l2)) (widN f) 0), .rd 4 (wRows f (numA (h1, l1)) (numA (h2, l2)) (widN f) 0)] = some ⟨.bool true, []⟩ := by
      have e : wRows f (numA (h1, l1)) (numA (h2, l2)) (widN f) 0 = ((wthN (numA (h1, l1)) (numA (h2, l2)) (widN f) 0).map (rowW f)).map PF.row := by unfold wRows; rw [List.map_map]; rfl
      have hl := wthN_len (a := numA (h1, l1)) (b := numA (h2, l2)) (k := widN f) (N := 0)
      have hw := widN_le f
      rw [e]
      simp only [SSame2, SSameP, pfsOf_map]
      rw [if_pos (by simp; omega)]
      simp
    simp [Try.f4, T, hof, SPre, hsame, SNext, SPrev, SChkS, i1, i2, ia, hc]
  · simp [Try.f4, T, hof, SPre, SSame2, SNext, SPrev, SChkS, i1, i2, ia, hc]

end Go.Proofs.Ytpcblologcindaa.AL
