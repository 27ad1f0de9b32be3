import Derived.Test.YtkcmgjagjbiinaaC21nW14
/- What single functions compute: a part of the proof; no conditions. -/
set_option linter.unusedVariables false
set_option linter.unusedSimpArgs false
set_option maxRecDepth 100000
set_option linter.unusedSectionVars false
namespace Go.Proofs.Ytkcmgjagjbiinaa.AL
open Go
attribute [local simp] qf cv qbin ibin sbin qun retPost rvOk ctV ctPost marksOk retV resAll resOf V.lt ltL V.ren renL V.exp V.exp1 cleanL V.clean closedL V.closed V.cells V.one V.tree
  loadV cellsAt isNC nilQ isSlD isIfD slNew ownRows ownCells V.isOwn slStore srcO qlook mlook mget mstr zval qnone qmake mput lmap isAggD placesOf fillV putCells lstore bound seqParts V.sh shL Blk.sh newV V.ok peqs peq srcRows qbytes byteSl appOk mmV mmR hidE V.fz fzL Blk.fz fzOk and_assoc
attribute [-simp] Int.not_le Int.not_lt Nat.not_le Nat.not_lt
def bigI (x y : RS) : Bool := big3 (interS x.l4 y.l4) (interS x.l6 y.l6) (interS (x.la.map wideS) (y.la.map wideS))
/-- One holder is clipped. -/
def stepC (a : List HD) (R : Nat → RS) (i : Nat) : Option (Nat → RS) := match plc (nmsL a) (a.getD i HD0).p with
  | none => some R
  | some j => if bigI (R i) (R j) = true then none else some (upd R i (intR (R i) (R j)))
def clipF (a : List HD) (L : List Nat) : Option (Nat → RS) := L.foldlM (stepC a) (resI a)
theorem clipF_snoc {a : List HD} {L : List Nat} {k i : Nat} (h : L[k]? = some i) : clipF a (L.take (k + 1)) = (clipF a (L.take k)).bind fun R => stepC a R i := by
  unfold clipF
  rw [List.take_add_one, h, List.foldlM_append]
  simp
theorem clip_none {a : List HD} {L : List Nat} {k : Nat} (h : clipF a (L.take k) = none) : clipF a L = none := by
  unfold clipF at h ⊢
  rw [← List.take_append_drop k L, List.foldlM_append, h]
  rfl
theorem big_no {x y : RS} (h : ¬ bigI x y = true) (hx : okR x) (hy : okR y) : okR (intR x y) := by
  unfold bigI at h
  obtain ⟨h1, h2, h3⟩ : _ ∧ _ ∧ _ := by
    unfold big3 at h
    simp only [Bool.or_eq_true, decide_eq_true_eq, not_or] at h
    exact ⟨h.1.1, h.1.2, h.2⟩
  refine okR_of (int_in hx hy) (fun k hk => ?_) (fun k hk => (int_nrm hx hy hk).1)
  rw [int_lst hx hy hk]
  match k, hk with
  | 0, _ => exact Nat.not_lt.1 h1
  | 1, _ => exact Nat.not_lt.1 h2
  | 2, _ => exact Nat.not_lt.1 h3
theorem intO_at {x y : RS} (hx : okR x) (hy : okR y) : SOInt [.agg x.cells, .agg y.cells] = if bigI x y = true then some ⟨.tup [.agg [.nils, .nils, .nils], .int .i64 4], []⟩ else
    some ⟨.tup [.agg [.own 0, .own 1, .own 2], .int .i64 0], [.sl 4 101 (sRows (intR x y).l4), .sl 4 101 (sRows (intR x y).l6), .sl 2 68 (aRows (intR x y).la)]⟩ := by
  simp only [SOInt, SEachInt, rsOf_cells]
  rw [if_pos ⟨hx.i, hy.i, okR_len hx, okR_len hy⟩, hx.c, hy.c, if_neg (by simp [orE2])]
  rfl
theorem step_ok' {a : List HD} {R S : Nat → RS} {i : Nat} (hR : ∀ j, j < a.length → okR (R j)) (hi : i < a.length) (h : stepC a R i = some S) : ∀ j, j < a.length → okR (S j) := by
  unfold stepC at h
  split at h
  · cases h; exact hR
  · rename_i j hp
    split at h
    · cases h
    · rename_i hb
      cases h
      intro x hx
      unfold upd
      split
      · exact big_no hb (hR i hi) (hR j (plc_lt hp))
      · exact hR x hx
def SClip : List V → Option Res
  | [.rd 5 rows] => match hdsOf rows with
    | some l => if inL l then (if chkT l ≠ 0 then some ⟨.tup [.nils, .int .i64 (chkT l)], []⟩ else match clipF l (downL l false) with
      | none => some ⟨.tup [.nils, .int .i64 4], []⟩
      | some R => some ⟨.tup [.rd 5 (hRows (trX l R)), .int .i64 0], []⟩) else none
    | none => none
  | _ => none
theorem sh3 (X : Nat) : (1 + X = X + 1) = True ∧ (2 + X = X + 1) = False ∧ (2 + X = X + 1 + 1) = True ∧ (1 + X = X) = False ∧ (2 + X = X) = False ∧ (1 + X = X + 1 + 1) = False := by
  refine ⟨?_, ?_, ?_, ?_, ?_, ?_⟩ <;> (apply propext; constructor <;> intro <;> first | trivial | omega)
structure ClipI (l : List HD) (Lp : LoopState → Option Code → Blk) (k : Nat) (u : St) : Prop where
  ex : ∃ R, clipF l ((downL l false).take k) = some R ∧ (∀ i, i < l.length → okR (R i)) ∧ u.hp 3 = some (.sl 5 52 (hRows (trX l R)))
  h0 : u.hp 0 = some (.box 22 [.nils])
  h1 : u.hp 1 = some (.box 33 [.int .i64 0])
  h2 : u.hp 2 = some (.box 80 [.own 3, .mrd (keysN (nmsL l)) (valsN l.length), .rd 1 (depRows l l.length)])
  h4 : u.hp 4 = some (.box 80 [.own 3, .mrd (keysN (nmsL l)) (valsN l.length), .rd 1 (depRows l l.length)])
  h5 : u.hp 5 = some (.box 4 [.bool false])
  df : u.hp 6 = some (.obj (.deferred (some [])))
  lp : u.hp 7 = some (Lp .ready none)
  nx : 7 < u.nx
/-- Behind the search for the parent. -/
structure ClipM (l : List HD) (R : Nat → RS) (i : Nat) (Lp : LoopState → Option Code → Blk) (u : St) : Prop where
  nt : u.nt = 60
  top : u.top = false
  dfs : u.df = []
  kp : u.kp = true
  t2 : u.tm 2 = .ptr 0 0
  t3 : u.tm 3 = .ptr 1 0
  t4 : u.tm 4 = .ptr 2 0
  t6 : u.tm 6 = .int .i64 (i : Int)
  t8 : u.tm 8 = .bool (plc (nmsL l) (l.getD i HD0).p).isSome
  z : ∃ z, u.tm 7 = .ptr z 0 ∧ 8 ≤ z ∧ z < u.nx ∧ ∀ j, plc (nmsL l) (l.getD i HD0).p = some j → u.hp z = some (.box 52 [.str (l.getD j HD0).n, .str (l.getD j HD0).p, .rd 4 (sRows (R j).l4), .rd 4 (sRows (R j).l6), .rd 2 (aRows (R j).la)])
  h0 : u.hp 0 = some (.box 22 [.nils])
  h1 : u.hp 1 = some (.box 33 [.int .i64 0])
  h2 : u.hp 2 = some (.box 80 [.own 3, .mrd (keysN (nmsL l)) (valsN l.length), .rd 1 (depRows l l.length)])
  h3 : u.hp 3 = some (.sl 5 52 (hRows (trX l R)))
  h4 : u.hp 4 = some (.box 80 [.own 3, .mrd (keysN (nmsL l)) (valsN l.length), .rd 1 (depRows l l.length)])
  h5 : u.hp 5 = some (.box 4 [.bool false])
  h6 : u.hp 6 = some (.obj (.deferred (some [])))
  h7 : u.hp 7 = some (Lp .busy none)
  nx : 7 < u.nx
def M_f16 : Md := fun i => if i = 7 then some #[0, 0, 2, 0, 14, 30, 63, 127, 255, 255, 0, 1535, 4095, 64] else if i = 9 then some #[0, 1, 0, 7, 15, 31, 0, 64, 255, 511, 1023, 1023, 0, 6143, 16383] else some #[]
@[simp] theorem M_f16_eq {i : Nat} : M_f16 i = (if i = 7 then some #[0, 0, 2, 0, 14, 30, 63, 127, 255, 255, 0, 1535, 4095, 64] else if i = 9 then some #[0, 1, 0, 7, 15, 31, 0, 64, 255, 511, 1023, 1023, 0, 6143, 16383] else some #[]) := rfl
theorem runs_shrink_Clip : ∀ args r, SClip args = some r → Runs Try.prog 16 args r := by
  intro args r hh
  unfold SClip at hh
  split at hh
  · rename_i rows
    split at hh
    · rename_i l hl
      split at hh
      · rename_i hin
        have h1 := parse_eq hdOf_eq hl
        subst h1
        change Runs _ _ [.rd 5 (hRows l)] _
        have hlen := hin.2
        have hT : ((T0.add 39 SOpen).add 41 SCop).ok Try.prog := Tab.add_ok (Tab.add_ok (T0_ok _) runs_shrink_open) runs_shrink_copied
        refine Runs.of_body Try.func16 (by decide) rfl (by simp [Try.f16]) ?_
        by_cases hz : chkT l = 0
        · rw [if_neg (by omega)] at hh
          have ho := open_ok hin hz
          simp only [TR.cells, trL, nms_len] at ho
          have hcp : SCop [.rd 5 (hRows l)] = some ⟨.own 0, [.sl 5 52 (hRows l)]⟩ := by
            simp only [SCop, hRows_parse]; rw [if_pos ⟨hlen, fun h hh => (hin.1 h hh).2.2.2⟩]
          refine W.seqE hT mixed M_f16 (by kernel_rfl) ?_
          simp [Try.f16]
          refine W.cut True [(0, .rd 5 (hRows l)), (2, .ptr 0 0), (3, .ptr 1 0), (4, .ptr 2 0), (5, .int .i64 0)] [.box 22 [.nils], .box 33 [.int .i64 0], .box 80 [.rd 5 (hRows l), .mrd (keysN (nmsL l)) (valsN l.length), .rd 1 (depRows l l.length)]] 60 ?_ ?_
          · refine W.of_WE hT mixed M_f16 _ (by kernel_rfl) ?_
            simp [ho]
          intro _
          refine W.seqE hT mixed M_f16 (by kernel_rfl) ?_
          simp
          refine W.cut True [(2, .ptr 0 0), (3, .ptr 1 0), (4, .ptr 2 0)] [.box 22 [.nils], .box 33 [.int .i64 0], .box 80 [.own 3, .mrd (keysN (nmsL l)) (valsN l.length), .rd 1 (depRows l l.length)], .sl 5 52 (hRows l)] 60 ?_ ?_
          · refine W.of_WE hT mixed M_f16 _ (by kernel_rfl) ?_
            simp [hcp]
          intro _
          have hT2 : (((T0.addC 48 DownW).addC 49 ParC).add 24 SOInt).ok Try.prog := Tab.add_ok (Tab.addC_ok (Tab.addC_ok (T0_ok _) (fun _ _ _ _ h => down_ok2 h)) (fun _ _ _ _ h => parent_ok2 h)) runs_resource_Int
          refine W.seq (W.cut True [(2, .ptr 0 0), (3, .ptr 1 0), (4, .ptr 2 0), (23, .fn 75 [] [.ptr 4 0, .ptr 5 0])] [.box 22 [.nils], .box 33 [.int .i64 0], .box 80 [.own 3, .mrd (keysN (nmsL l)) (valsN l.length), .rd 1 (depRows l l.length)], .sl 5 52 (hRows l), .box 80 [.own 3, .mrd (keysN (nmsL l)) (valsN l.length), .rd 1 (depRows l l.length)], .box 4 [.bool false]] 60 ?_ ?_)
          · refine W.of_WE hT2 mixed M_f16 _ (by kernel_rfl) ?_
            simp
            refine ⟨3, keysN (nmsL l), valsN l.length, depRows l l.length, false, rfl, fun c e s' hk hc1 hc2 he1 he2 hce hc he => ?_⟩
            simp at hk hc1 he1
            have k0 := hk 0 (by omega)
            have k1 := hk 1 (by omega)
            have k2 := hk 2 (by omega)
            have k3 := hk 3 (by omega)
            simp at k0 k1 k2 k3
            refine ⟨[0, 1, 2, 3, c, e], ?_⟩
            simp [wkOkx, tmOk, dfOk, hpOk, k0, k1, k2, k3, hc, he, hce]
            omega
          intro _
          refine W.block (W.rangeFunc' (n := 6) (by simp) (gf := 75) (fi := []) (caps := [.ptr 4 0, .ptr 5 0]) (by simp) (by simp) Try.func75 (by decide) rfl ?_)
          intro fn Lp hLp
          have hfz : ∀ b x, 5 < b → Blk.fz b x (Lp .busy none) = Lp .busy none := by
            intro b x hb
            rw [hLp]
            simp only [Blk.fz]
            congr 1
            funext t
            simp only [mkx_tm, lkV_cons, lkV_nil]
            repeat' split
            all_goals first
              | rfl
              | (simp only [V.fz, fzL]; rw [if_neg (by omega)]; done)
              | (simp only [V.fz, fzL]; rw [if_neg (by omega), if_neg (by omega)])
          refine down1_ok2 ⟨7, 4, 5, 3, l, false, rfl, hlen, fun k u => ClipI l Lp k u, ?_, ?_, ?_, ?_⟩
          · refine ⟨⟨resI l, by simp [clipF], fun i hi => okT hin hz hi, ?_⟩, ?_, ?_, ?_, ?_, ?_, ?_, ?_, ?_⟩
            · simp; exact (congrArg hRows (trX_self l)).symm
            · simp
            · simp
            · simp
            · simp
            · simp
            · simp
            · simp
            · simp
          · rintro k s0 ⟨⟨R, _, _, h3⟩, _, _, _, h4, h5, _, _, _⟩
            exact ⟨h4, h5, _, h3, by simp⟩
          · intro k i s0 s' hL hi hI hsame
            obtain ⟨⟨R, hR, hok, q3⟩, q0, q1, q2, q4, q5, qd, ql, hnx⟩ := hI
            obtain ⟨hs1, hs2⟩ := hsame
            rw [← hs1] at q0 q1 q2 q3 q4 q5 qd ql
            have z0 := fresh2 (show 0 < s'.nx by omega)
            have z1 := fresh2 (show 1 < s'.nx by omega)
            have z2 := fresh2 (show 2 < s'.nx by omega)
            have z3 := fresh2 (show 3 < s'.nx by omega)
            have z7 := fresh2 (show 7 < s'.nx by omega)
            have hsn := clipF_snoc (a := l) hL
            rw [hR] at hsn
            simp only [Option.bind_some] at hsn
            have hit : i < (trX l R).length := by simp; exact hi
            have hrow : (trX l R)[i] = ⟨(l.getD i HD0).n, (l.getD i HD0).p, R i⟩ := by rw [← hd_get hit, trX_get hi]
            refine CallY.of_loop' hLp ql rfl (by simp) ?_
            refine W.of_WE hT2 mixed M_f16 _ (by kernel_rfl) ?_
            simp [ql, z7]
            refine W.block (W.seq (W.mono (Q := thenA (ClipM l R i Lp) (fun _ _ => False)) ?_ ?_))
            · refine W.region_two hT2 mixed #[0, 0, 2, 0, 14, 30, 63, 127, 255, 255, 0, 1535, 4095, 64] [0, 1, 2, 3, 4, 5] 6 10 [7, 8, 9, 10, 11, 12] [6, 7, 8, 9, 11, 12] (by kernel_rfl) ?_
              have hd64 : ∀ k b, hidO 64 k b = false := fun k b => by
                unfold hidO
                rw [Nat.testBit_lt_two_pow (show 64 < 2 ^ (64 + k) by exact Nat.lt_of_lt_of_le (by decide : 64 < 2 ^ 64) (Nat.pow_le_pow_right (by decide) (by omega)))]
                rfl
              have tb1 : Nat.testBit 1535 10 = true := by decide
              have hidv : ∀ base b, hidP #[0, 0, 2, 0, 14, 30, 63, 127, 255, 255, 0, 1535, 4095, 64] 64 13 base 11 b = True := fun base b => by
                apply propext
                exact ⟨fun _ => trivial, fun _ j hj h => by simp at h⟩
              refine AStepI_of rfl rfl rfl (by simp [q2, q3, z0, z1, z2, z3, z7, hi, hrow, HD.row, vis, hd64, hcR, orK, tb1, hidv]) ?_
              generalize hK : WSeq Try.prog _ _ _ _ _ = K
              simp [q2, q3, z0, z1, z2, z3, z7, hi, hrow, HD.row, vis, hd64, hcR, orK, tb1, hidv]
              subst hK
              refine AStepI_of rfl rfl rfl (by simp [q2, q3, z0, z1, z2, z3, z7, hi, hrow, HD.row, vis, hd64, hcR, orK, tb1, hidv]) ?_
              generalize hK : WSeq Try.prog _ _ _ _ _ = K
              simp [q2, q3, z0, z1, z2, z3, z7, hi, hrow, HD.row, vis, hd64, hcR, orK, tb1, hidv]
              subst hK
              refine AStepI_of rfl rfl rfl (by simp [q2, q3, z0, z1, z2, z3, z7, hi, hrow, HD.row, vis, hd64, hcR, orK, tb1, hidv]) ?_
              generalize hK : WSeq Try.prog _ _ _ _ _ = K
              simp [q2, q3, z0, z1, z2, z3, z7, hi, hrow, HD.row, vis, hd64, hcR, orK, tb1, hidv]
              subst hK
              refine AStepI_of rfl rfl rfl (by simp [q2, q3, z0, z1, z2, z3, z7, hi, hrow, HD.row, vis, hd64, hcR, orK, tb1, hidv]) ?_
              generalize hK : WSeq Try.prog _ _ _ _ _ = K
              simp [q2, q3, z0, z1, z2, z3, z7, hi, hrow, HD.row, vis, hd64, hcR, orK, tb1, hidv]
              subst hK
              refine AStepI_of rfl rfl rfl (by simp [q2, q3, z0, z1, z2, z3, z7, hi, hrow, HD.row, vis, hd64, hcR, orK, tb1, hidv]) ?_
              generalize hK : WSeq Try.prog _ _ _ _ _ = K
              simp [q2, q3, z0, z1, z2, z3, z7, hi, hrow, HD.row, vis, hd64, hcR, orK, tb1, hidv]
              subst hK
              refine AStepI_of rfl rfl rfl (by simp [q2, q3, z0, z1, z2, z3, z7, hi, hrow, HD.row, vis, hd64, hcR, orK, tb1, hidv]) ?_
              generalize hK : WSeq Try.prog _ _ _ _ _ = K
              simp [q2, q3, z0, z1, z2, z3, z7, hi, hrow, HD.row, vis, hd64, hcR, orK, tb1, hidv]
              subst hK
              change _ ∧ _
              constructor
              · refine AStepI_cut rfl rfl rfl ?_
                generalize hK : WSeq Try.prog _ _ _ _ _ = K
                simp [orT]
                refine ⟨3, trX l R, nmsL l, depRows l l.length, ⟨l[i].n, l[i].p, R i⟩, by simp [HD.row], ?_, ?_, by simp, by simp [hlen], fun s2 hk1 hk2 => ?_⟩
                · simp [q3]
                · simp <;> omega
                simp at hk1
                have key : ∀ x, x < s'.nx → x ≠ 7 → s2.hp x = s'.hp x := fun x hx h7 => by
                  have := hk2 x (by simp <;> omega)
                  simpa [h7] using this
                have k7 : s2.hp 7 = some (Lp .busy none) := by
                  have := hk2 7 (by simp <;> omega)
                  simpa using this
                subst hK
                have r0 := (key 0 (by omega) (by decide)).trans q0
                have r1 := (key 1 (by omega) (by decide)).trans q1
                have r2 := (key 2 (by omega) (by decide)).trans q2
                have r3 := (key 3 (by omega) (by decide)).trans q3
                have r4 := (key 4 (by omega) (by decide)).trans q4
                have r5 := (key 5 (by omega) (by decide)).trans q5
                have r6 := (key 6 (by omega) (by decide)).trans qd
                have y0 := fresh2 (show 0 < s2.nx by omega)
                have y1 := fresh2 (show 1 < s2.nx by omega)
                have y2 := fresh2 (show 2 < s2.nx by omega)
                have y3 := fresh2 (show 3 < s2.nx by omega)
                have y4 := fresh2 (show 4 < s2.nx by omega)
                have y5 := fresh2 (show 5 < s2.nx by omega)
                have y6 := fresh2 (show 6 < s2.nx by omega)
                have y7 := fresh2 (show 7 < s2.nx by omega)
                clear key hk2
                cases hp : plc (nmsL l) l[i].p with
                | none =>
                  simp only
                  refine AStepI_of rfl rfl rfl (by simp [y7, vis, hd64, hcR, orK, tb1, hidv]) ?_
                  generalize hK : WSeq Try.prog _ _ _ _ _ = K
                  simp [y7, vis, hd64, hcR, orK, tb1, hidv]
                  subst hK
                  refine AStepI_of rfl rfl rfl (by simp [y7, vis, hd64, hcR, orK, tb1, hidv]) ?_
                  generalize hK : WSeq Try.prog _ _ _ _ _ = K
                  simp [y7, vis, hd64, hcR, orK, tb1, hidv]
                  subst hK
                  refine AStepI_of rfl rfl rfl (by simp [y7, vis, hd64, hcR, orK, tb1, hidv]) ?_
                  generalize hK : WSeq Try.prog _ _ _ _ _ = K
                  simp [y7, vis, hd64, hcR, orK, tb1, hidv]
                  subst hK
                  refine AStepI_of rfl rfl rfl (by simp [y7, vis, hd64, hcR, orK, tb1, hidv]) ?_
                  generalize hK : WSeq Try.prog _ _ _ _ _ = K
                  simp [y7, vis, hd64, hcR, orK, tb1, hidv]
                  subst hK
                  refine AStepI_of rfl rfl rfl (by simp [y7, vis, hd64, hcR, orK, tb1, hidv]) ?_
                  generalize hK : WSeq Try.prog _ _ _ _ _ = K
                  simp [y7, vis, hd64, hcR, orK, tb1, hidv]
                  subst hK
                  refine AStepI_of rfl rfl rfl (by simp [y7, vis, hd64, hcR, orK, tb1, hidv]) ?_
                  generalize hK : WSeq Try.prog _ _ _ _ _ = K
                  simp [y7, vis, hd64, hcR, orK, tb1, hidv]
                  subst hK
                  change ClipM l R i Lp _
                  refine ⟨?_, ?_, ?_, ?_, ?_, ?_, ?_, ?_, ?_, ⟨s2.nx + 80, ?_, ?_, ?_, ?_⟩, ?_, ?_, ?_, ?_, ?_, ?_, ?_, ?_, ?_⟩
                  · simp
                  · simp
                  · simp
                  · simp
                  · simp
                  · simp
                  · simp
                  · simp
                  · rw [hd_get hi, hp]; simp
                  · simp
                  · omega
                  · simp <;> omega
                  · intro j' hj'
                    rw [hd_get hi, hp] at hj'
                    first
                      | (cases hj'; done)
                      | (simp at hj'; subst hj'; simp [trX_get (plc_lt hp), HD.row])
                  · simp [r0, y0]
                  · simp [r1, y1]
                  · simp [r2, y2]
                  · simp [r3, y3]
                  · simp [r4, y4]
                  · simp [r5, y5]
                  · simp [r6, y6]
                  · simp [k7, y7]
                  · simp <;> omega
                | some j =>
                  simp only [trX_get (plc_lt hp), HD.row]
                  refine AStepI_of rfl rfl rfl (by simp [y7, vis, hd64, hcR, orK, tb1, hidv]) ?_
                  generalize hK : WSeq Try.prog _ _ _ _ _ = K
                  simp [y7, vis, hd64, hcR, orK, tb1, hidv]
                  subst hK
                  refine AStepI_of rfl rfl rfl (by simp [y7, vis, hd64, hcR, orK, tb1, hidv]) ?_
                  generalize hK : WSeq Try.prog _ _ _ _ _ = K
                  simp [y7, vis, hd64, hcR, orK, tb1, hidv]
                  subst hK
                  refine AStepI_of rfl rfl rfl (by simp [y7, vis, hd64, hcR, orK, tb1, hidv]) ?_
                  generalize hK : WSeq Try.prog _ _ _ _ _ = K
                  simp [y7, vis, hd64, hcR, orK, tb1, hidv]
                  subst hK
                  refine AStepI_of rfl rfl rfl (by simp [y7, vis, hd64, hcR, orK, tb1, hidv]) ?_
                  generalize hK : WSeq Try.prog _ _ _ _ _ = K
                  simp [y7, vis, hd64, hcR, orK, tb1, hidv]
                  subst hK
                  refine AStepI_of rfl rfl rfl (by simp [y7, vis, hd64, hcR, orK, tb1, hidv]) ?_
                  generalize hK : WSeq Try.prog _ _ _ _ _ = K
                  simp [y7, vis, hd64, hcR, orK, tb1, hidv]
                  subst hK
                  refine AStepI_of rfl rfl rfl (by simp [y7, vis, hd64, hcR, orK, tb1, hidv]) ?_
                  generalize hK : WSeq Try.prog _ _ _ _ _ = K
                  simp [y7, vis, hd64, hcR, orK, tb1, hidv]
                  subst hK
                  change ClipM l R i Lp _
                  refine ⟨?_, ?_, ?_, ?_, ?_, ?_, ?_, ?_, ?_, ⟨s2.nx + 80, ?_, ?_, ?_, ?_⟩, ?_, ?_, ?_, ?_, ?_, ?_, ?_, ?_, ?_⟩
                  · simp
                  · simp
                  · simp
                  · simp
                  · simp
                  · simp
                  · simp
                  · simp
                  · rw [hd_get hi, hp]; simp
                  · simp
                  · omega
                  · simp <;> omega
                  · intro j' hj'
                    rw [hd_get hi, hp] at hj'
                    first
                      | (cases hj'; done)
                      | (simp at hj'; subst hj'; simp [trX_get (plc_lt hp), HD.row])
                  · simp [r0, y0]
                  · simp [r1, y1]
                  · simp [r2, y2]
                  · simp [r3, y3]
                  · simp [r4, y4]
                  · simp [r5, y5]
                  · simp [r6, y6]
                  · simp [k7, y7]
                  · simp <;> omega
              · refine AStepI_of rfl rfl rfl (by simp [vis, hd64, hcR, orK, tb1, hidv]) ?_
                generalize hK : WSeq Try.prog _ _ _ _ _ = K
                simp [vis, hd64, hcR, orK, tb1, hidv]
                subst hK
                refine AStepI_cut rfl rfl rfl ?_
                generalize hK : WSeq Try.prog _ _ _ _ _ = K
                simp [orT]
                refine ⟨3, trX l R, nmsL l, depRows l l.length, ⟨l[i].n, l[i].p, R i⟩, by simp [HD.row], ?_, ?_, by simp, by simp [hlen], fun s2 hk1 hk2 => ?_⟩
                · simp [q3, z3]
                · simp <;> omega
                simp at hk1
                have key : ∀ x, x < s'.nx → x ≠ 7 → s2.hp x = s'.hp x := fun x hx h7 => by
                  have := hk2 x (by simp <;> omega)
                  have zx := fresh2 hx
                  simpa [h7, zx] using this
                have k7 : s2.hp 7 = some (Lp .busy none) := by
                  have := hk2 7 (by simp <;> omega)
                  simpa [z7] using this
                have kz : s2.hp (s'.nx + 8 + 80) = some (.box 52 [.str .empty, .str .empty, .nils, .nils, .nils]) := by
                  have := hk2 (s'.nx + 8 + 80) (by simp <;> omega)
                  simpa using this
                have zlt : (s'.nx + 8 + 80 < s2.nx) = True := by simp <;> omega
                have z70 : (s'.nx + 8 + 80 = 7) = False := by simp <;> omega
                have e0 : (0 = s'.nx + 8 + 80) = False := by simp <;> omega
                subst hK
                have r0 := (key 0 (by omega) (by decide)).trans q0
                have r1 := (key 1 (by omega) (by decide)).trans q1
                have r2 := (key 2 (by omega) (by decide)).trans q2
                have r3 := (key 3 (by omega) (by decide)).trans q3
                have r4 := (key 4 (by omega) (by decide)).trans q4
                have r5 := (key 5 (by omega) (by decide)).trans q5
                have r6 := (key 6 (by omega) (by decide)).trans qd
                have y0 := fresh2 (show 0 < s2.nx by omega)
                have y1 := fresh2 (show 1 < s2.nx by omega)
                have y2 := fresh2 (show 2 < s2.nx by omega)
                have y3 := fresh2 (show 3 < s2.nx by omega)
                have y4 := fresh2 (show 4 < s2.nx by omega)
                have y5 := fresh2 (show 5 < s2.nx by omega)
                have y6 := fresh2 (show 6 < s2.nx by omega)
                have y7 := fresh2 (show 7 < s2.nx by omega)
                clear key hk2
                cases hp : plc (nmsL l) l[i].p with
                | none =>
                  simp only
                  refine AStepI_of rfl rfl rfl (by simp [y7, kz, zlt, vis, hd64, hcR, orK, tb1, hidv]) ?_
                  generalize hK : WSeq Try.prog _ _ _ _ _ = K
                  simp [y7, kz, zlt, vis, hd64, hcR, orK, tb1, hidv]
                  subst hK
                  refine AStepI_of rfl rfl rfl (by simp [y7, kz, zlt, vis, hd64, hcR, orK, tb1, hidv]) ?_
                  generalize hK : WSeq Try.prog _ _ _ _ _ = K
                  simp [y7, kz, zlt, vis, hd64, hcR, orK, tb1, hidv]
                  subst hK
                  refine AStepI_of rfl rfl rfl (by simp [y7, kz, zlt, vis, hd64, hcR, orK, tb1, hidv]) ?_
                  generalize hK : WSeq Try.prog _ _ _ _ _ = K
                  simp [y7, kz, zlt, vis, hd64, hcR, orK, tb1, hidv]
                  subst hK
                  refine AStepI_of rfl rfl rfl (by simp [y7, kz, zlt, vis, hd64, hcR, orK, tb1, hidv]) ?_
                  generalize hK : WSeq Try.prog _ _ _ _ _ = K
                  simp [y7, kz, zlt, vis, hd64, hcR, orK, tb1, hidv]
                  subst hK
                  refine AStepI_of rfl rfl rfl (by simp [y7, kz, zlt, vis, hd64, hcR, orK, tb1, hidv]) ?_
                  generalize hK : WSeq Try.prog _ _ _ _ _ = K
                  simp [y7, kz, zlt, vis, hd64, hcR, orK, tb1, hidv]
                  subst hK
                  change ClipM l R i Lp _
                  refine ⟨?_, ?_, ?_, ?_, ?_, ?_, ?_, ?_, ?_, ⟨s'.nx + 8 + 80, ?_, ?_, ?_, ?_⟩, ?_, ?_, ?_, ?_, ?_, ?_, ?_, ?_, ?_⟩
                  · simp
                  · simp
                  · simp
                  · simp
                  · simp
                  · simp
                  · simp
                  · simp
                  · rw [hd_get hi, hp]; simp
                  · simp
                  · omega
                  · simp <;> omega
                  · intro j' hj'
                    rw [hd_get hi, hp] at hj'
                    first
                      | (cases hj'; done)
                      | (simp at hj'; subst hj'; simp [trX_get (plc_lt hp), HD.row, kz, zlt])
                  · simp [r0, y0]
                  · simp [r1, y1]
                  · simp [r2, y2]
                  · simp [r3, y3]
                  · simp [r4, y4]
                  · simp [r5, y5]
                  · simp [r6, y6]
                  · simp [k7, y7]
                  · simp <;> omega
                | some j =>
                  simp only [trX_get (plc_lt hp), HD.row]
                  refine AStepI_of rfl rfl rfl (by simp [y7, kz, zlt, vis, hd64, hcR, orK, tb1, hidv]) ?_
                  generalize hK : WSeq Try.prog _ _ _ _ _ = K
                  simp [y7, kz, zlt, vis, hd64, hcR, orK, tb1, hidv]
                  subst hK
                  refine AStepI_of rfl rfl rfl (by simp [y7, kz, zlt, vis, hd64, hcR, orK, tb1, hidv]) ?_
                  generalize hK : WSeq Try.prog _ _ _ _ _ = K
                  simp [y7, kz, zlt, vis, hd64, hcR, orK, tb1, hidv]
                  subst hK
                  refine AStepI_of rfl rfl rfl (by simp [y7, kz, zlt, vis, hd64, hcR, orK, tb1, hidv]) ?_
                  generalize hK : WSeq Try.prog _ _ _ _ _ = K
                  simp [y7, kz, zlt, vis, hd64, hcR, orK, tb1, hidv]
                  subst hK
                  refine AStepI_of rfl rfl rfl (by simp [y7, kz, zlt, vis, hd64, hcR, orK, tb1, hidv]) ?_
                  generalize hK : WSeq Try.prog _ _ _ _ _ = K
                  simp [y7, kz, zlt, vis, hd64, hcR, orK, tb1, hidv]
                  subst hK
                  refine AStepI_of rfl rfl rfl (by simp [y7, kz, zlt, vis, hd64, hcR, orK, tb1, hidv]) ?_
                  generalize hK : WSeq Try.prog _ _ _ _ _ = K
                  simp [y7, kz, zlt, vis, hd64, hcR, orK, tb1, hidv]
                  subst hK
                  change ClipM l R i Lp _
                  refine ⟨?_, ?_, ?_, ?_, ?_, ?_, ?_, ?_, ?_, ⟨s'.nx + 8 + 80, ?_, ?_, ?_, ?_⟩, ?_, ?_, ?_, ?_, ?_, ?_, ?_, ?_, ?_⟩
                  · simp
                  · simp
                  · simp
                  · simp
                  · simp
                  · simp
                  · simp
                  · simp
                  · rw [hd_get hi, hp]; simp
                  · simp
                  · omega
                  · simp <;> omega
                  · intro j' hj'
                    rw [hd_get hi, hp] at hj'
                    first
                      | (cases hj'; done)
                      | (simp at hj'; subst hj'; simp [trX_get (plc_lt hp), HD.row, kz, zlt])
                  · simp [r0, y0]
                  · simp [r1, y1]
                  · simp [r2, y2]
                  · simp [r3, y3]
                  · simp [r4, y4]
                  · simp [r5, y5]
                  · simp [r6, y6]
                  · simp [k7, y7]
                  · simp <;> omega
            · intro e s2 hm
              cases e with
              | normal =>
                obtain ⟨nt, top, dfs, kp, t2, t3, t4, t6, t8, ⟨z, t7, hz8, hzn, hz⟩, r0, r1, r2, r3, r4, r5, r6, k7, hnx2⟩ := hm
                clear q0 q1 q2 q3 q4 q5 qd ql z0 z1 z2 z3 z7 hs2 hs1
                refine W.wk (Wk.stR [(2, .ptr 0 0), (3, .ptr 1 0), (4, .ptr 2 0), (6, .int .i64 (i : Int)), (7, .ptr z 0), (8, .bool (plc (nmsL l) (l.getD i HD0).p).isSome)] s2 60 ?_ rfl (Nat.le_refl _) nt top dfs kp) ?_
                · intro p hp
                  simp only [List.mem_cons, List.not_mem_nil, or_false] at hp
                  rcases hp with rfl | rfl | rfl | rfl | rfl | rfl <;> assumption
                have y0 := fresh2 (show 0 < s2.nx by omega)
                have y1 := fresh2 (show 1 < s2.nx by omega)
                have y2 := fresh2 (show 2 < s2.nx by omega)
                have y3 := fresh2 (show 3 < s2.nx by omega)
                have y4 := fresh2 (show 4 < s2.nx by omega)
                have y5 := fresh2 (show 5 < s2.nx by omega)
                have y6 := fresh2 (show 6 < s2.nx by omega)
                have y7 := fresh2 (show 7 < s2.nx by omega)
                have yz := fresh2 hzn
                unfold stepC at hsn
                rw [hd_get hi] at hsn
                rw [hd_get hi]
                rw [hd_get hi] at hz
                cases hp : plc (nmsL l) l[i].p with
                | none =>
                  rw [hp] at hsn
                  refine W.of_WE hT2 mixed M_f16 _ (by kernel_rfl) ?_
                  simp [k7, y7]
                  refine ⟨⟨R, by rw [hsn], hok, ?_⟩, ?_, ?_, ?_, ?_, ?_, ?_, ?_, ?_⟩
                  · simp [r3, y3]
                  · simp [r0, y0]
                  · simp [r1, y1]
                  · simp [r2, y2]
                  · simp [r4, y4]
                  · simp [r5, y5]
                  · simp [r6, y6]
                  · simp
                  · simp <;> omega
                | some j =>
                  rw [hp] at hsn
                  have hj := plc_lt hp
                  have hzb := hz j hp
                  have hIO := intO_at (hok i hi) (hok j hj)
                  simp only [RS.cells] at hIO
                  refine W.seqE hT2 mixed M_f16 (by kernel_rfl) ?_
                  simp
                  cases hb : bigI (R i) (R j)
                  case true =>
                    simp only [hb] at hsn
                    rw [hb] at hIO
                    simp at hsn hIO
                    refine W.seqE hT2 mixed M_f16 (by kernel_rfl) ?_
                    simp [r2, r3, y2, y3, hzb, yz, hi, hrow, HD.row, hIO]
                    refine W.of_WE hT2 mixed M_f16 _ (by kernel_rfl) ?_
                    simp [k7, y7, r0, y0, r1, y1]
                    rintro s3 ⟨e1, e2⟩
                    refine ⟨.done, some .ret, by rw [e1]; simp, by simp, ?_⟩
                    rw [e1]
                    have hcl : clipF l (downL l false) = none := clip_none hsn
                    rw [hcl] at hh
                    simp at hh
                    subst hh
                    show W _ _ _ _
                    refine W.of_WE hT2 mixed M_f16 _ (by kernel_rfl) ?_
                    simp [r0, y0, r1, y1, r6, y6]
                  case false =>
                    simp only [hb] at hsn
                    rw [hb] at hIO
                    simp at hsn hIO
                    refine W.seqE hT2 mixed M_f16 (by kernel_rfl) ?_
                    simp [r2, r3, y2, y3, hzb, yz, hi, hrow, HD.row, hIO]
                    have n5 := sh3 (s2.nx + 8 + 8 + 64)
                    refine W.wk (Wk.freeze (s2.nx + 8 + 8 + 64) (.sl 4 101 (sRows (intR (R i) (R j)).l4)) (by simp) (by simp)) ?_
                    refine W.wk (Wk.freeze (s2.nx + 8 + 8 + 64 + 1) (.sl 4 101 (sRows (intR (R i) (R j)).l6)) (by simp) (by simp)) ?_
                    refine W.wk (Wk.freeze (s2.nx + 8 + 8 + 64 + 1 + 1) (.sl 2 68 (aRows (intR (R i) (R j)).la)) (by simp) (by simp)) ?_
                    refine W.of_WE hT2 mixed M_f16 _ (by kernel_rfl) ?_
                    have f1 := hfz (s2.nx + 8 + 8 + 64) (.sl 4 101 (sRows (intR (R i) (R j)).l4)) (by omega)
                    have f2 := hfz (s2.nx + 8 + 8 + 64 + 1) (.sl 4 101 (sRows (intR (R i) (R j)).l6)) (by omega)
                    have f3 := hfz (s2.nx + 8 + 8 + 64 + 1 + 1) (.sl 2 68 (aRows (intR (R i) (R j)).la)) (by omega)
                    have hsr := setR_row (l := trX l R) (r := intR (R i) (R j)) hit
                    rw [setR_trX hi, hrow] at hsr
                    have hok' := step_ok' (a := l) (R := R) (i := i) (S := upd R i (intR (R i) (R j))) hok hi (by unfold stepC; rw [hd_get hi, hp]; simp [hb])
                    simp [↓f1, ↓f2, ↓f3, k7, y7, r2, y2, r3, y3, hi, hrow, n5]
                    refine ⟨⟨upd R i (intR (R i) (R j)), by rw [hsn], hok', ?_⟩, ?_, ?_, ?_, ?_, ?_, ?_, ?_, ?_⟩
                    · simp [r3, y3, HD.row, ← hsr, hi]
                    · simp [r0, y0]
                    · simp [r1, y1]
                    · simp [r2, y2]
                    · simp [r4, y4]
                    · simp [r5, y5]
                    · simp [r6, y6]
                    · simp [↓f1, ↓f2, ↓f3]
                    · simp <;> omega
              | _ => exact hm.elim
          · intro s0 s' hI hsame
            obtain ⟨⟨R, hR, hok, q3⟩, q0, q1, q2, q4, q5, qd, ql, hnx⟩ := hI
            obtain ⟨hs1, hs2⟩ := hsame
            rw [← hs1] at q0 q1 q2 q3 q4 q5 qd ql
            rw [List.take_length] at hR
            rw [hR] at hh
            simp at hh
            subst hh
            refine ⟨.ready, none, ql, by simp, ?_⟩
            show W _ _ _ _
            refine W.wk (Wk.mk (ns := [0, 1, 2, 3, 6]) (l := [(2, .ptr 0 0), (3, .ptr 1 0), (4, .ptr 2 0)]) (h := [.box 22 [.nils], .box 33 [.int .i64 0], .box 80 [.own 3, .mrd (keysN (nmsL l)) (valsN l.length), .rd 1 (depRows l l.length)], .sl 5 52 (hRows (trX l R)), .obj (.deferred (some []))]) (cx := { nt := 60, df := [4] }) ?_) ?_
            · simp [wkOkx, tmOk, dfOk, hpOk, q0, q1, q2, q3, qd]
              skip
            refine W.wk (Wk.freeze 3 (.sl 5 52 (hRows (trX l R))) (by simp) (by simp)) ?_
            refine W.of_WE hT2 mixed M_f16 _ (by kernel_rfl) ?_
            simp
        · rw [if_pos hz] at hh
          cases hh
          have ho := open_at hin
          have hz' : ¬ (opnE l).2.2 = 0 := hz
          refine W.seqE hT mixed M_f16 (by kernel_rfl) ?_
          simp [Try.f16]
          refine W.cut True [(2, .ptr 0 0), (3, .ptr 1 0), (5, .int .i64 (opnE l).2.2)] [.box 22 [.nils], .box 33 [.int .i64 0]] 60 ?_ ?_
          · refine W.of_WE hT mixed M_f16 _ (by kernel_rfl) ?_
            simp [ho, opnR]
          intro _
          refine W.of_WE hT mixed M_f16 _ (by kernel_rfl) ?_
          simp [hz', chkT]
      · cases hh
    · cases hh
  · cases hh

end Go.Proofs.Ytkcmgjagjbiinaa.AL
namespace Go.Proofs.Ytkcmgjagjbiinaa.AL
open Go
/-! What Clip makes. -/
theorem eq_lst {a b : RS} (ha : okR a) (hb : okR b) (h : eqR a b) {k : Nat} (hk : k < 3) : a.lst k = b.lst k := nrm_eq (ha.nrm hk) (hb.nrm hk) (h k hk)
theorem eq_R {a b : RS} (ha : okR a) (hb : okR b) (h : eqR a b) : a = b := sameR_eq ((same_iff ha hb).2 h)
theorem big_le {x y : RS} (hx : okR x) (hy : okR y) (h : leR x y) : ¬ bigI x y = true ∧ intR x y = x := by
  have hl : ∀ k, k < 3 → interS (x.lst k) (y.lst k) = x.lst k := fun k hk => by
    rw [← int_lst hx hy hk]
    obtain ⟨h1, h2⟩ := int_nrm hx hy hk
    exact nrm_eq h1 (hx.nrm hk) fun N => (h2 N).trans ⟨fun g => g.1, fun g => ⟨g, h k hk N g⟩⟩
  have hlen := lens_lst.1 (chkR_len hx.c)
  have hb : ¬ bigI x y = true := by
    have h0 := hl 0 (by omega)
    have h1 := hl 1 (by omega)
    have h2 := hl 2 (by omega)
    have l0 := hlen 0 (by omega)
    have l1 := hlen 1 (by omega)
    have l2 := hlen 2 (by omega)
    simp only [RS.lst] at h0 h1 h2 l0 l1 l2
    unfold bigI big3
    rw [h0, h1, h2]
    simp only [Bool.or_eq_true, decide_eq_true_eq, not_or, Nat.not_lt]
    exact ⟨⟨l0, l1⟩, l2⟩
  refine ⟨hb, eq_R (big_no hb hx hy) hx (eqR_sub.2 ⟨(int_sub hx hy).1, int_great hx hy (leR.refl x) h⟩)⟩
/-- A parent comes before its child. -/
theorem down_par {l : List HD} (h : chkT l = 0) {k i j : Nat} (hk : (downL l false)[k]? = some i) (hp : plc (nmsL l) (l.getD i HD0).p = some j) : j ∈ (downL l false).take k := by
  obtain ⟨hkl, hke⟩ := List.getElem?_eq_some_iff.1 hk
  have him : i ∈ (downL l false).take (k + 1) := by rw [List.take_add_one, hk]; simp
  have hi : i < l.length := down_lt (List.mem_of_mem_take him)
  have hj := plc_lt hp
  have hd := dep_child h hi hp
  rcases Classical.em (j ∈ (downL l false).take (k + 1)) with g | g
  · rw [List.take_add_one, hk, List.mem_append] at g
    rcases g with g | g
    · exact g
    · simp at g; subst g; omega
  · have := take_rk h him hj g
    unfold rkD at this
    simp at this
    omega
theorem down_new {l : List HD} (h : chkT l = 0) {k i : Nat} (hk : (downL l false)[k]? = some i) : i ∉ (downL l false).take k := by
  have hn := downL_nodup h false
  obtain ⟨hkl, hke⟩ := List.getElem?_eq_some_iff.1 hk
  intro hm
  obtain ⟨q, hq, he⟩ := List.getElem_of_mem hm
  rw [List.getElem_take] at he
  rw [List.length_take] at hq
  have := (List.getElem_inj hn).1 (he.trans hke.symm)
  omega
/-- What holds of the resources after so many holders. -/
structure ClipV (l : List HD) (P : List Nat) (R : Nat → RS) : Prop where
  ok : ∀ i, i < l.length → okR (R i)
  old : ∀ i, i ∉ P → R i = resI l i
  one : ∀ i, i ∈ P → plc (nmsL l) (l.getD i HD0).p = none → R i = resI l i
  two : ∀ i j, i ∈ P → plc (nmsL l) (l.getD i HD0).p = some j → j ∈ P ∧ R i = intR (resI l i) (R j)
theorem clip_inv {l : List HD} (hl : inL l) (h : chkT l = 0) : ∀ (k : Nat) (R : Nat → RS), k ≤ (downL l false).length → clipF l ((downL l false).take k) = some R → ClipV l ((downL l false).take k) R
  | 0, R, _, hc => by
    simp [clipF] at hc
    subst hc
    exact ⟨fun i hi => okT hl h hi, fun i _ => rfl, fun i hi => by simp at hi, fun i j hi => by simp at hi⟩
  | k + 1, S, hk, hc => by
    have hi : (downL l false)[k]? = some (downL l false)[k] := List.getElem?_eq_getElem (by omega)
    generalize (downL l false)[k] = i at hi
    have hil : i < l.length := down_lt (List.mem_of_getElem? hi)
    rw [clipF_snoc hi] at hc
    cases hR : clipF l ((downL l false).take k) with
    | none => rw [hR] at hc; cases hc
    | some R =>
      rw [hR] at hc
      simp only [Option.bind_some] at hc
      have V := clip_inv hl h k R (by omega) hR
      have hn := down_new h hi
      have hok := step_ok' V.ok hil hc
      unfold stepC at hc
      have hm : ∀ x, x ∈ (downL l false).take (k + 1) ↔ x ∈ (downL l false).take k ∨ x = i := fun x => by
        rw [List.take_add_one, hi]; simp
      cases hp : plc (nmsL l) (l.getD i HD0).p with
      | none =>
        rw [hp] at hc
        cases hc
        refine ⟨hok, fun x hx => V.old x fun g => hx ((hm x).2 (.inl g)), fun x hx hx2 => ?_, fun x y hx hxy => ?_⟩
        · rcases (hm x).1 hx with g | rfl
          · exact V.one x g hx2
          · exact V.old x hn
        · rcases (hm x).1 hx with g | rfl
          · have := V.two x y g hxy
            exact ⟨(hm y).2 (.inl this.1), this.2⟩
          · rw [hp] at hxy; cases hxy
      | some j =>
        rw [hp] at hc
        simp only at hc
        split at hc
        · cases hc
        · cases hc
          have hj := down_par h hi hp
          have hji : j ≠ i := fun e => hn (e ▸ hj)
          refine ⟨hok, fun x hx => ?_, fun x hx hx2 => ?_, fun x y hx hxy => ?_⟩
          · unfold upd
            rw [if_neg fun e => hx ((hm x).2 (.inr e))]
            exact V.old x fun g => hx ((hm x).2 (.inl g))
          · unfold upd
            by_cases e : x = i
            · subst e; rw [hp] at hx2; cases hx2
            · rw [if_neg e]; exact V.one x (((hm x).1 hx).resolve_right e) hx2
          · by_cases e : x = i
            · subst e
              rw [hp] at hxy
              cases hxy
              refine ⟨(hm _).2 (.inl hj), ?_⟩
              unfold upd
              rw [if_pos rfl, if_neg hji, V.old x hn]
            · have h2 := V.two x y (((hm x).1 hx).resolve_right e) hxy
              refine ⟨(hm y).2 (.inl h2.1), ?_⟩
              have hyi : y ≠ i := fun g => hn (g ▸ h2.1)
              unfold upd
              rw [if_neg e, if_neg hyi]
              exact h2.2
/-- What Clip makes of a valid tree. -/
structure Clp (l : List HD) (R : Nat → RS) : Prop where
  il : inL l
  cl : chkT l = 0
  ok : ∀ i, i < l.length → okR (R i)
  one : ∀ i, i < l.length → plc (nmsL l) (l.getD i HD0).p = none → R i = resI l i
  two : ∀ i j, i < l.length → plc (nmsL l) (l.getD i HD0).p = some j → R i = intR (resI l i) (R j)
theorem clp_of {l : List HD} {R : Nat → RS} (hl : inL l) (h : chkT l = 0) (hc : clipF l (downL l false) = some R) : Clp l R := by
  have V := clip_inv hl h (downL l false).length R (Nat.le_refl _) (by rw [List.take_length]; exact hc)
  rw [List.take_length] at V
  exact ⟨hl, h, V.ok, fun i hi hp => V.one i (down_mem h hi) hp, fun i j hi hp => (V.two i j (down_mem h hi) hp).2⟩
section
variable {l : List HD} {R : Nat → RS} (C : Clp l R)
include C
theorem Clp.less {i : Nat} (hi : i < l.length) : leR (R i) (resI l i) := by
  cases hp : plc (nmsL l) (l.getD i HD0).p with
  | none => rw [C.one i hi hp]; exact leR.refl _
  | some j =>
    rw [C.two i j hi hp]
    exact (int_sub (okT C.il C.cl hi) (C.ok j (plc_lt hp))).1
theorem Clp.snd : sndX l R := by
  intro i j hi hp
  rw [C.two i j hi hp]
  exact (int_sub (okT C.il C.cl hi) (C.ok j (plc_lt hp))).2
theorem Clp.great {o : List HD} (hol : inL o) (hoc : chkT o = 0) (hsh : shpB o l = true) (hs : o.any (excT (trL o)) = false) (hb : ∀ i, i < l.length → leR (o.getD i HD0).r (l.getD i HD0).r) : ∀ (d i : Nat), i < l.length → depN l i = d → leR (o.getD i HD0).r (R i) := by
  intro d
  induction d with
  | zero =>
    intro i hi hd
    cases hp : plc (nmsL l) (l.getD i HD0).p with
    | none => rw [C.one i hi hp]; exact hb i hi
    | some j => have := dep_child C.cl hi hp; omega
  | succ d ih =>
    intro i hi hd
    cases hp : plc (nmsL l) (l.getD i HD0).p with
    | none => rw [C.one i hi hp]; exact hb i hi
    | some j =>
      have hj := plc_lt hp
      have hdc := dep_child C.cl hi hp
      have h1 := ih j hj (by omega)
      have hio : i < o.length := by have := shp_len hsh; omega
      have h2 : leR (o.getD i HD0).r (o.getD j HD0).r := by
        refine noexc hol hoc hs hio ?_
        rw [nms_eq hsh, (shp_np hsh hio).2]; exact hp
      rw [C.two i j hi hp]
      exact int_great (okT C.il C.cl hi) (C.ok j hj) (hb i hi) (h2.trans h1)
theorem Clp.chk : chkT (trX l R) = 0 := chkT_trX C.cl fun i hi => (C.ok i hi).c
theorem Clp.inl : inL (trX l R) := by
  refine ⟨fun h hh => ?_, by rw [trX_len]; exact C.il.2⟩
  obtain ⟨i, hi, rfl⟩ := List.getElem_of_mem hh
  have hi' : i < l.length := by simpa using hi
  have h1 := C.il.1 _ (List.getElem_mem hi')
  rw [← hd_get hi, trX_get hi', hd_get hi']
  exact ⟨h1.1, h1.2.1, (C.ok i hi').i, okR_len (C.ok i hi')⟩
theorem Clp.exc : SExcs [.rd 5 (hRows (trX l R))] = some ⟨.tup [.rd 1 [], .int .i64 0], []⟩ := by
  simp only [SExcs, hRows_parse]
  rw [if_pos C.inl, if_neg (by rw [C.chk]; simp), excL_trX C.ok C.snd]
  rfl
theorem Clp.shp : shpB (trX l R) l = true := by
  unfold shpB
  rw [trX_len, decide_eq_true rfl, Bool.true_and, List.all_eq_true]
  intro i hi
  rw [List.mem_range] at hi
  rw [trX_get hi]
  simp [npE]
end
theorem sel_trX {l : List HD} {R : Nat → RS} (up : Bool) (k : Nat) : selD (trX l R) up k (trX l R).length = selD l up k l.length := by
  unfold selD
  rw [trX_len]
  refine List.filter_congr fun i hi => ?_
  rw [depN_trX l R (List.mem_range.1 hi)]
theorem down_trX (l : List HD) (R : Nat → RS) (up : Bool) : downL (trX l R) up = downL l up := by
  unfold downL preD
  rw [trX_len]
  congr 1
  funext k
  have := sel_trX (l := l) (R := R) up k
  rw [trX_len] at this
  exact this
theorem clip_snd {l : List HD} {R : Nat → RS} (hR : ∀ i, i < l.length → okR (R i)) (hs : sndX l R) : ∀ (L : List Nat) (S : Nat → RS), (∀ i ∈ L, i < l.length) → (∀ i, i < l.length → S i = R i) → ∃ T, L.foldlM (stepC (trX l R)) S = some T ∧ ∀ i, i < l.length → T i = R i
  | [], S, _, hS => ⟨S, rfl, hS⟩
  | i :: L, S, hL, hS => by
    have hi := hL i List.mem_cons_self
    have hL' : ∀ j ∈ L, j < l.length := fun j hj => hL j (List.mem_cons_of_mem _ hj)
    rw [List.foldlM_cons]
    have hp' : plc (nmsL (trX l R)) ((trX l R).getD i HD0).p = plc (nmsL l) (l.getD i HD0).p := by rw [trX_nms, trX_get hi]
    cases hp : plc (nmsL l) (l.getD i HD0).p with
    | none =>
      have : stepC (trX l R) S i = some S := by unfold stepC; rw [hp', hp]
      rw [this]
      exact clip_snd hR hs L S hL' hS
    | some j =>
      have hj := plc_lt hp
      obtain ⟨h1, h2⟩ := big_le (hR i hi) (hR j hj) (hs i j hi hp)
      have : stepC (trX l R) S i = some (upd S i (intR (S i) (S j))) := by
        unfold stepC; rw [hp', hp]; simp only; rw [hS i hi, hS j hj, if_neg h1]
      rw [this]
      refine clip_snd hR hs L _ hL' fun x hx => ?_
      unfold upd
      split
      · rename_i e; rw [hS i hi, hS j hj, h2, e]
      · exact hS x hx
theorem trX_trX (l : List HD) (R T : Nat → RS) (h : ∀ i, i < l.length → T i = R i) : trX (trX l R) T = trX l R := by
  refine List.ext_getElem (by simp) fun i h1 h2 => ?_
  have hi : i < l.length := by simpa using h2
  simp only [trX, List.getElem_map, List.getElem_range]
  have := trX_get (R := R) hi
  unfold trX at this
  rw [this, h i hi]
theorem Clp.again {l : List HD} {R : Nat → RS} (C : Clp l R) : SClip [.rd 5 (hRows (trX l R))] = some ⟨.tup [.rd 5 (hRows (trX l R)), .int .i64 0], []⟩ := by
  obtain ⟨T, h1, h2⟩ := clip_snd C.ok C.snd (downL l false) (resI (trX l R)) (fun i hi => down_lt hi) fun i hi => by unfold resI; rw [trX_get hi]
  have h3 : clipF (trX l R) (downL (trX l R) false) = some T := by rw [down_trX]; exact h1
  simp only [SClip, hRows_parse]
  rw [if_pos C.inl, if_neg (by rw [C.chk]; simp), h3]
  simp only
  rw [trX_trX l R T h2]
theorem clip_at {l : List HD} (hl : inL l) : SClip [.rd 5 (hRows l)] = if chkT l ≠ 0 then some ⟨.tup [.nils, .int .i64 (chkT l)], []⟩ else match clipF l (downL l false) with
      | none => some ⟨.tup [.nils, .int .i64 4], []⟩
      | some R => some ⟨.tup [.rd 5 (hRows (trX l R)), .int .i64 0], []⟩ := by
  simp only [SClip, hRows_parse]
  (rw [if_pos hl]) <;> rfl
end Go.Proofs.Ytkcmgjagjbiinaa.AL
