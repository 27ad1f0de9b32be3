import Derived.Test.YtbnjijffkjcmcaaGreatDoorZW4
import Derived.Test.YtbnjijffkjcmcaaGreatDoorZW6
import Derived.Test.YtbnjijffkjcmcaaGreatDoorZW9
import Derived.Test.YtbnjijffkjcmcaaGreatDoorZW8
/- What single functions compute: a part of the proof; no conditions. -/
set_option linter.unusedVariables false
set_option linter.unusedSimpArgs false
set_option maxRecDepth 100000
set_option linter.unusedSectionVars false
namespace Go.Proofs.YtbnjijffkjcmcaaGreatDoor.AL
open Go
attribute [local simp] qf cv qbin ibin sbin qun retPost rvOk ctV ctPost marksOk retV resAll resOf V.lt ltL V.ren renL V.exp V.exp1 cleanL V.clean closedL V.closed V.cells V.one V.tree
  loadV cellsAt isNC nilQ isSlD isIfD slNew ownRows ownCells V.isOwn slStore srcO qlook mlook mget mstr zval qnone qmake mput lmap isAggD placesOf fillV putCells lstore bound seqParts V.sh shL Blk.sh newV V.ok peqs peq srcRows qbytes byteSl appOk mmV mmR hidE V.fz fzL Blk.fz fzOk and_assoc
attribute [-simp] Int.not_le Int.not_lt Nat.not_le Nat.not_lt
/-! Strings of spans. -/
theorem kw_w {f h l : Int} (hc : cAddr f h l = true) : kw f = widN f := by rcases cAddr_46 hc with rfl | rfl <;> rfl
noncomputable def SST : List V → Option Res
  | [.int .u8 f, .agg [.int .u64 h, .int .u64 l, .int .u64 h', .int .u64 l']] => ifC (inA h l ∧ inA h' l') (some ⟨if chkS f h l h' l' = 0 then .tup [.str (bs (spT f.toNat h.toNat l.toNat h'.toNat l'.toNat)), .int .i64 0] else .tup [.str (bs []), .int .i64 (chkS f h l h' l')], []⟩)
  | _ => none
theorem st_at {f : Int} {h l h' l' : Nat} (r1 : h < 18446744073709551616) (r2 : l < 18446744073709551616) (r3 : h' < 18446744073709551616) (r4 : l' < 18446744073709551616) :
    SST [.int .u8 f, .agg [.int .u64 (h : Int), .int .u64 (l : Int), .int .u64 (h' : Int), .int .u64 (l' : Int)]] = some ⟨if chkS f h l h' l' = 0 then .tup [.str (bs (spT f.toNat h l h' l')), .int .i64 0] else .tup [.str (bs []), .int .i64 (chkS f h l h' l')], []⟩ := by
  simp only [SST]
  rw [ifC_pos ⟨⟨by omega, by omega, by omega, by omega⟩, by omega, by omega, by omega, by omega⟩]
  rfl
theorem spT_len (f h l h' l' : Nat) (hn : fstN f h l h' l' ≤ 128) : (spT f h l h' l').length ≤ 85 := by
  have h1 := addrT_len f h l
  have h2 := addrT_len f h' l'
  unfold spT
  split
  · have hdl : (dgs 10 (fstN f h l h' l')).length ≤ 3 := dgs_len (by omega) 2 _ (by omega) (by omega)
    unfold ppT; simp; omega
  · simp; omega
def M_f4 : Md := fun i => if i = 5 then some #[0, 1, 0, 4, 15] else some #[]
@[simp] theorem M_f4_eq {i : Nat} : M_f4 i = (if i = 5 then some #[0, 1, 0, 4, 15] else some #[]) := rfl
theorem runs_span_Text : ∀ args r, SST args = some r → Runs Tryz.prog 4 args r := by
  intro args r hh
  unfold SST ifC at hh
  split at hh
  · rename_i f h0 l0 h0' l0'
    split at hh
    · rename_i hin
      obtain ⟨hA, hB⟩ := hin
      obtain ⟨a1, a2, a3, a4⟩ := hA
      obtain ⟨b1, b2, b3, b4⟩ := hB
      obtain ⟨h, rfl⟩ := Int.eq_ofNat_of_zero_le a1
      obtain ⟨l, rfl⟩ := Int.eq_ofNat_of_zero_le a3
      obtain ⟨h', rfl⟩ := Int.eq_ofNat_of_zero_le b1
      obtain ⟨l', rfl⟩ := Int.eq_ofNat_of_zero_le b3
      cases hh
      simp only [Int.toNat_natCast]
      have hA : inA (h : Int) (l : Int) := ⟨a1, a2, a3, a4⟩
      have hB : inA (h' : Int) (l' : Int) := ⟨b1, b2, b3, b4⟩
      have hT : (((((T0.add 8 SChkS).add 9 SFirst).add 10 SLast).add 11 STx).add 12 SAddrT).ok Tryz.prog := Tab.add_ok (Tab.add_ok (Tab.add_ok (Tab.add_ok (Tab.add_ok (T0_ok _) runs_span_Check) runs_span_walk_first) runs_span_last) runs_number_Text) runs_AddrText
      have hs1 : SChkS [.int .u8 f, .agg [.int .u64 (h : Int), .int .u64 (l : Int), .int .u64 (h' : Int), .int .u64 (l' : Int)]] = some ⟨.int .i64 (chkS f h l h' l'), []⟩ := rfl
      refine Runs.of_body Tryz.func4 (by decide) rfl (by simp [Tryz.f4]) ?_
      refine W.seqE hT mixed M_f4 (by kernel_rfl) ?_
      simp [Tryz.f4]
      by_cases hc : chkS f h l h' l' = 0
      · rw [if_pos hc]
        rw [hc] at hs1
        obtain ⟨c1, c2, c3⟩ := chkS_zero hc
        obtain ⟨k1, k2⟩ := fst_chk hA hc
        have hw := widN_le f
        have hkw := kw_w c1
        have hs2 : SFirst [.agg [.int .u8 f, .int .u64 (h : Int), .int .u64 (l : Int), .int .u64 (h' : Int), .int .u64 (l' : Int)]] = some ⟨.agg [.int .u8 f, .int .u64 h, .int .u64 l, .int .i64 (fstN f h l h' l')], []⟩ := by
          simp only [SFirst]; rw [if_pos ⟨hA, hB, hc⟩]
        have hs3 : SLast [.agg [.int .u8 f, .int .u64 (h : Int), .int .u64 (l : Int), .int .i64 (fstN f h l h' l')]] = some ⟨.agg [.int .u64 (lastA h l (widN f - fstN f h l h' l')).1, .int .u64 (lastA h l (widN f - fstN f h l h' l')).2], []⟩ := by
          simp only [SLast]; rw [if_pos ⟨hA, by omega, by rw [hkw]; omega⟩, hkw, Int.toNat_natCast]
        obtain ⟨v1, g1⟩ := cAddr_or c1 (by omega) (by omega)
        have hf : ((f.toNat : Nat) : Int) = f := by omega
        have hs4 := tx_at (f := f) (n := (fstN f h l h' l' : Int)) (h := h) (l := l) (by omega) (by omega)
        rw [if_pos k1, Int.toNat_natCast] at hs4
        have hs5 := addrT_at (f := f) (h := h) (l := l) (by omega) (by omega)
        rw [if_pos c1] at hs5
        have hs6 := addrT_at (f := f) (h := h') (l := l') (by omega) (by omega)
        rw [if_pos c2] at hs6
        have hsp : spT f.toNat h l h' l' = if lastA h l (widN f - fstN f h l h' l') = ((h' : Int), (l' : Int)) then ppT f.toNat h l (fstN f h l h' l') else addrT f.toNat h l ++ 45 :: addrT f.toNat h' l' := by
          unfold spT; rw [hf]
        have l5 := addrT_len f.toNat h l
        have l6 := addrT_len f.toNat h' l'
        rw [hsp]
        clear hsp k1
        generalize fstN f h l h' l' = n at *
        generalize ppT f.toNat h l n = X at *
        generalize addrT f.toNat h l = Y at *
        generalize addrT f.toNat h' l' = Z at *
        have e1 : bs Y ++ (⟨#[45]⟩ : ByteArray) = bs (Y ++ [45]) := bs_append _ [45]
        have e2 : bs (Y ++ [45]) ++ bs Z = bs (Y ++ 45 :: Z) := by rw [bs_append]; simp
        have z1 : (bs Y).size ≤ 42 := by rw [bs_size]; omega
        have z2 : (bs (Y ++ [45])).size ≤ 43 := by rw [bs_size]; simp; omega
        have z3 : (bs Z).size ≤ 42 := by rw [bs_size]; omega
        have z4 : (⟨#[45]⟩ : ByteArray).size = 1 := rfl
        refine W.cut True [(0, .int .u8 f), (3, .ptr 0 0)] [.box 26 [.int .u64 h, .int .u64 l, .int .u64 h', .int .u64 l']] 49 ?_ ?_
        · refine W.of_WE hT mixed M_f4 _ (by kernel_rfl) ?_
          simp [Tryz.f4, hs1]
        intro _
        by_cases hL : lastA h l (widN f - n) = ((h' : Int), (l' : Int))
        · rw [if_pos hL]
          rw [hL] at hs3
          refine W.cut False [] [] 49 ?_ (fun h => h.elim)
          refine W.of_WE hT mixed M_f4 _ (by kernel_rfl) ?_
          simp [Tryz.f4, hs2, hs3, hs4]
        · rw [if_neg hL]
          have hL' : ¬ ((lastA h l (widN f - n)).1 = (h' : Int) ∧ (lastA h l (widN f - n)).2 = (l' : Int)) := fun q => hL (Prod.ext q.1 q.2)
          refine W.cut True [(0, .int .u8 f), (3, .ptr 0 0)] [.box 26 [.int .u64 h, .int .u64 l, .int .u64 h', .int .u64 l']] 49 ?_ ?_
          · generalize (lastA h l (widN f - n)).1 = p1 at *
            generalize (lastA h l (widN f - n)).2 = p2 at *
            refine W.of_WE hT mixed M_f4 _ (by kernel_rfl) ?_
            simp [Tryz.f4, hs2, hs3, hL']
          intro _
          refine W.seqE hT mixed M_f4 (by kernel_rfl) ?_
          simp [Tryz.f4, hs5]
          refine W.seqE hT mixed M_f4 (by kernel_rfl) ?_
          simp [hs6]
          refine W.of_WE hT mixed M_f4 _ (by kernel_rfl) ?_
          simp [Tryz.f4, e1, e2, z4]
          omega
      · rw [if_neg hc]
        generalize chkS f h l h' l' = ck at *
        refine W.cut False [] [] 49 ?_ (fun h => h.elim)
        refine W.of_WE hT mixed M_f4 _ (by kernel_rfl) ?_
        simp [Tryz.f4, hs1, hc]
        rfl
    · cases hh
  · cases hh

end Go.Proofs.YtbnjijffkjcmcaaGreatDoor.AL
namespace Go.Proofs.YtbnjijffkjcmcaaGreatDoor.AL
open Go
attribute [local simp] qf cv qbin ibin sbin qun retPost rvOk ctV ctPost marksOk retV resAll resOf V.lt ltL V.ren renL V.exp V.exp1 cleanL V.clean closedL V.closed V.cells V.one V.tree
  loadV cellsAt isNC nilQ isSlD isIfD slNew ownRows ownCells V.isOwn slStore srcO qlook mlook mget mstr zval qnone qmake mput lmap isAggD placesOf fillV putCells lstore bound seqParts V.sh shL Blk.sh newV V.ok peqs peq srcRows qbytes byteSl appOk mmV mmR hidE V.fz fzL Blk.fz fzOk and_assoc
attribute [-simp] Int.not_le Int.not_lt Nat.not_le Nat.not_lt
/-! A span out of a string. -/
def spV : Option (Nat × Nat × Nat × Nat × Nat) → V
  | some (f, h, l, h', l') => .tup [.int .u8 (f : Int), .agg [.int .u64 (h : Int), .int .u64 (l : Int), .int .u64 (h' : Int), .int .u64 (l' : Int)], .int .i64 0]
  | none => .tup [.int .u8 0, .agg [.int .u64 0, .int .u64 0, .int .u64 0, .int .u64 0], .int .i64 12]
noncomputable def SSP : List V → Option Res
  | [.str s] => ifC (s.size < 100000) (some ⟨spV (sp s.data.toList), []⟩)
  | _ => none
theorem sp_at {l : List UInt8} (h : l.length < 100000) : SSP [.str (bs l)] = some ⟨spV (sp l), []⟩ := by
  simp only [SSP, bs_size, bs_data]
  rw [ifC_pos h]
def M_f6 : Md := fun i => if i = 4 then some #[0, 1, 0, 3, 15, 31] else if i = 14 then some #[0, 0, 1, 7, 15] else some #[]
@[simp] theorem M_f6_eq {i : Nat} : M_f6 i = (if i = 4 then some #[0, 1, 0, 3, 15, 31] else if i = 14 then some #[0, 0, 1, 7, 15] else some #[]) := rfl
theorem runs_span_Parse : ∀ args r, SSP args = some r → Runs Tryz.prog 6 args r := by
  intro args r hh
  unfold SSP ifC at hh
  split at hh
  · rename_i s0
    obtain ⟨l, rfl⟩ := bs_ex s0
    rw [bs_size, bs_data] at hh
    split at hh
    · rename_i hlen
      cases hh
      have hT : (((((T0.add 16 SPf).add 17 SOf).add 18 SCutS).add 19 SAP).add 4 SST).ok Tryz.prog := Tab.add_ok (Tab.add_ok (Tab.add_ok (Tab.add_ok (Tab.add_ok (T0_ok _) runs_number_Parse) runs_span_Of) runs_CutS) runs_AddrParse) runs_span_Text
      have hp := pf_at hlen
      refine Runs.of_body Tryz.func6 (by decide) rfl (by simp [Tryz.f6]) ?_
      refine W.seqE hT mixed M_f6 (by kernel_rfl) ?_
      simp [Tryz.f6]
      cases hpp : pp l with
      | some v =>
        obtain ⟨f, h, l2, n⟩ := v
        obtain ⟨hv, hc, ht⟩ := pp_iff.1 hpp
        obtain ⟨hin, hca⟩ := vA_inA hv
        obtain ⟨k1, k2, k3⟩ := fst_last hin hc
        obtain ⟨a0, a1, b0, b1⟩ := k3
        have e : sp l = some (f, h, l2, (lastA h l2 (widN f - n)).1.toNat, (lastA h l2 (widN f - n)).2.toNat) := by unfold sp; rw [hpp]
        rw [e]
        rw [hpp] at hp
        have ho : SOf [.agg [.int .u8 (f : Int), .int .u64 (h : Int), .int .u64 (l2 : Int), .int .i64 (n : Int)]] = some ⟨.tup [.agg [.int .u64 h, .int .u64 l2, .int .u64 (lastA h l2 (widN f - n)).1, .int .u64 (lastA h l2 (widN f - n)).2], .int .i64 0], []⟩ := by
          simp only [SOf]; rw [if_pos hin, if_pos hc, Int.toNat_natCast]
        have y1 : (((lastA h l2 (widN f - n)).1.toNat : Nat) : Int) = (lastA h l2 (widN f - n)).1 := by omega
        have y2 : (((lastA h l2 (widN f - n)).2.toNat : Nat) : Int) = (lastA h l2 (widN f - n)).2 := by omega
        simp only [spV, y1, y2]
        clear k1 k2 e
        generalize (lastA h l2 (widN f - n)).1 = p1 at *
        generalize (lastA h l2 (widN f - n)).2 = p2 at *
        refine W.cut False [] [] 81 ?_ (fun h => h.elim)
        refine W.seqE hT mixed M_f6 (by kernel_rfl) ?_
        simp [Tryz.f6, hp, ppV]
        refine W.of_WE hT mixed M_f6 _ (by kernel_rfl) ?_
        simp [Tryz.f6, ho]
      | none =>
        have e : sp l = spX l (pa (Lib.cut l [45]).1) (pa (Lib.cut l [45]).2.1) := by unfold sp; rw [hpp]
        rw [e]
        rw [hpp] at hp
        have hcut := cutS_at (l := l) (sep := [45]) (by simp) (by omega)
        rw [show bs [45] = (⟨#[45]⟩ : ByteArray) from rfl] at hcut
        obtain ⟨cl1, cl2⟩ := cut_len 45 l
        have ha := ap_at (l := (Lib.cut l [45]).1) (by omega)
        have hb := ap_at (l := (Lib.cut l [45]).2.1) (by omega)
        have bd : ∀ m f h l, pa m = some (f, h, l) → h < 18446744073709551616 ∧ l < 18446744073709551616 := by
          intro m f h l e
          rcases (pa_iff.1 e).1 with ⟨rfl, q1, q2⟩ | ⟨rfl, rfl, q2⟩
          · exact ⟨q1, q2⟩
          · exact ⟨by omega, by omega⟩
        have bdA := bd (Lib.cut l [45]).1
        have bdB := bd (Lib.cut l [45]).2.1
        clear bd e
        generalize pa (Lib.cut l [45]).1 = oa at *
        generalize pa (Lib.cut l [45]).2.1 = ob at *
        refine W.cut True [(0, .str (bs l)), (3, .ptr 0 0)] [.box 26 [.int .u64 0, .int .u64 0, .int .u64 0, .int .u64 0]] 81 ?_ ?_
        · refine W.seqE hT mixed M_f6 (by kernel_rfl) ?_
          simp [Tryz.f6, hp, ppV]
          refine W.of_WE hT mixed M_f6 _ (by kernel_rfl) ?_
          simp
        intro _
        refine W.seqE hT mixed M_f6 (by kernel_rfl) ?_
        simp [Tryz.f6, hcut]
        have key : ∀ (o : Option (Nat × Nat × Nat)), ∃ (x b c e : Int), paV o = .tup [.int .u8 x, .agg [.int .u64 b, .int .u64 c], .int .i64 e] ∧ ((o = none ∧ e = 12) ∨ (∃ f h l : Nat, o = some (f, h, l) ∧ e = 0 ∧ x = f ∧ b = h ∧ c = l)) := by
          intro o
          cases o with
          | none => exact ⟨_, _, _, _, rfl, .inl ⟨rfl, rfl⟩⟩
          | some v => obtain ⟨f, h, l⟩ := v; exact ⟨_, _, _, _, rfl, .inr ⟨f, h, l, rfl, rfl, rfl, rfl, rfl⟩⟩
        obtain ⟨x1, b1, c1, e1, q1, o1⟩ := key oa
        obtain ⟨x2, b2, c2, e2, q2, o2⟩ := key ob
        rw [q1] at ha
        rw [q2] at hb
        refine W.seqE hT mixed M_f6 (by kernel_rfl) ?_
        simp [ha]
        refine W.seqE hT mixed M_f6 (by kernel_rfl) ?_
        simp [hb]
        refine W.cut True [(0, .str (bs l)), (3, .ptr 0 0), (4, .int .i64 e1), (10, .int .u8 x1), (12, .int .u8 x2), (14, .int .i64 e2)] [.box 26 [.int .u64 b1, .int .u64 c1, .int .u64 b2, .int .u64 c2]] 81 ?_ ?_
        · refine W.of_WE hT mixed M_f6 _ (by kernel_rfl) ?_
          simp
        intro _
        rcases o1 with ⟨rfl, rfl⟩ | ⟨f, h, l2, rfl, rfl, rfl, rfl, rfl⟩
        · have e0 : spX l none ob = none := by unfold spX; rfl
          rw [e0]
          refine W.cut False [] [] 81 ?_ (fun h => h.elim)
          refine W.of_WE hT mixed M_f6 _ (by kernel_rfl) ?_
          simp [Tryz.f6, spV]
        · rcases o2 with ⟨rfl, rfl⟩ | ⟨g, h2, l3, rfl, rfl, rfl, rfl, rfl⟩
          · have e0 : spX l (some (f, h, l2)) none = none := by unfold spX; rfl
            rw [e0]
            refine W.cut False [] [] 81 ?_ (fun h => h.elim)
            refine W.of_WE hT mixed M_f6 _ (by kernel_rfl) ?_
            simp [Tryz.f6, spV]
          · have e0 : spX l (some (f, h, l2)) (some (g, h2, l3)) = if f = g ∧ chkS f h l2 h2 l3 = 0 ∧ spT f h l2 h2 l3 = l then some (f, h, l2, h2, l3) else none := rfl
            rw [e0]
            by_cases hfg : f = g
            · subst hfg
              obtain ⟨r1, r2⟩ := bdA _ _ _ rfl
              obtain ⟨r3, r4⟩ := bdB _ _ _ rfl
              have hst := st_at (f := (f : Int)) r1 r2 r3 r4
              rw [Int.toNat_natCast] at hst
              generalize chkS f h l2 h2 l3 = ck at *
              generalize spT f h l2 h2 l3 = X at *
              refine W.cut True [(0, .str (bs l)), (3, .ptr 0 0), (10, .int .u8 f)] [.box 26 [.int .u64 h, .int .u64 l2, .int .u64 h2, .int .u64 l3]] 81 ?_ ?_
              · refine W.of_WE hT mixed M_f6 _ (by kernel_rfl) ?_
                simp [Tryz.f6]
              intro _
              by_cases hck : ck = 0
              · rw [if_pos hck] at hst
                by_cases hX : X = l
                · refine W.of_WE hT mixed M_f6 _ (by kernel_rfl) ?_
                  simp [Tryz.f6, hst, bs_toList, hck, hX, spV]
                · refine W.cut False [] [] 81 ?_ (fun h => h.elim)
                  refine W.of_WE hT mixed M_f6 _ (by kernel_rfl) ?_
                  simp [Tryz.f6, hst, bs_toList, hck, hX, spV]
              · rw [if_neg hck] at hst
                refine W.cut False [] [] 81 ?_ (fun h => h.elim)
                refine W.of_WE hT mixed M_f6 _ (by kernel_rfl) ?_
                simp [Tryz.f6, hst, hck, spV]
            · refine W.cut False [] [] 81 ?_ (fun h => h.elim)
              refine W.of_WE hT mixed M_f6 _ (by kernel_rfl) ?_
              simp [Tryz.f6, hfg, spV]
              omega
    · cases hh
  · cases hh

end Go.Proofs.YtbnjijffkjcmcaaGreatDoor.AL
namespace Go.Proofs.YtbnjijffkjcmcaaGreatDoor.AL
open Go
attribute [local simp] qf cv qbin ibin sbin qun retPost rvOk ctV ctPost marksOk retV resAll resOf V.lt ltL V.ren renL V.exp V.exp1 cleanL V.clean closedL V.closed V.cells V.one V.tree
  loadV cellsAt isNC nilQ isSlD isIfD slNew ownRows ownCells V.isOwn slStore srcO qlook mlook mget mstr zval qnone qmake mput lmap isAggD placesOf fillV putCells lstore bound seqParts V.sh shL Blk.sh newV V.ok peqs peq srcRows qbytes byteSl appOk mmV mmR hidE V.fz fzL Blk.fz fzOk and_assoc
attribute [-simp] Int.not_le Int.not_lt Nat.not_le Nat.not_lt
/-! The reference's numerals. -/
theorem hexD {d : Nat} (h : d < 16) : (⟨#[48, 49, 50, 51, 52, 53, 54, 55, 56, 57, 97, 98, 99, 100, 101, 102]⟩ : ByteArray).extract d (d + 1) = bs [dch d] := by
  have e : (⟨#[48, 49, 50, 51, 52, 53, 54, 55, 56, 57, 97, 98, 99, 100, 101, 102]⟩ : ByteArray) = bs [48, 49, 50, 51, 52, 53, 54, 55, 56, 57, 97, 98, 99, 100, 101, 102] := rfl
  rw [e, bs_extract]
  congr 1
  have : d = 0 ∨ d = 1 ∨ d = 2 ∨ d = 3 ∨ d = 4 ∨ d = 5 ∨ d = 6 ∨ d = 7 ∨ d = 8 ∨ d = 9 ∨ d = 10 ∨ d = 11 ∨ d = 12 ∨ d = 13 ∨ d = 14 ∨ d = 15 := by omega
  rcases this with rfl | rfl | rfl | rfl | rfl | rfl | rfl | rfl | rfl | rfl | rfl | rfl | rfl | rfl | rfl | rfl <;> rfl
noncomputable def SDg : List V → Option Res
  | [.int .u64 n, .int .u64 b] => ifC ((0 ≤ n ∧ n < 18446744073709551616) ∧ (b = 10 ∨ b = 16)) (some ⟨.str (bs (dgs b.toNat n.toNat)), []⟩)
  | _ => none
theorem dg_at {n b : Nat} (h : n < 18446744073709551616) (hb : b = 10 ∨ b = 16) : SDg [.int .u64 (n : Int), .int .u64 (b : Int)] = some ⟨.str (bs (dgs b n)), []⟩ := by
  simp only [SDg]
  rw [ifC_pos ⟨⟨by omega, by omega⟩, by omega⟩]
  rfl
def M_f36 : Md := fun i => some #[]
@[simp] theorem M_f36_eq {i : Nat} : M_f36 i = (some #[]) := rfl
theorem digits_ind {b : Nat} (hb : b = 10 ∨ b = 16) : ∀ N n : Nat, n < N → n < 18446744073709551616 → Runs Tryz.prog 36 [.int .u64 (n : Int), .int .u64 (b : Int)] ⟨.str (bs (dgs b n)), []⟩
  | 0, _, h, _ => absurd h (by omega)
  | N + 1, n, h, hn => by
    have hb0 : ¬ (b : Int) = 0 := by omega
    have hm : (n : Int).tmod b = ((n % b : Nat) : Int) := by
      rw [Int.tmod_eq_emod_of_nonneg (by omega)]; rfl
    have hq : IntKind.u64.wrap ((n : Int) / (b : Int)) = (n : Int) / (b : Int) := by
      have h0 : (n : Int) / (b : Int) = ((n / b : Nat) : Int) := (Int.natCast_ediv n b).symm
      have h1 : n / b ≤ n := Nat.div_le_self _ _
      rw [h0]
      generalize n / b = q at *
      exact wr_u64 (by omega) (by omega)
    have hb1 : ¬ b = 0 := by omega
    have hdl : (dgs b (n / b)).length ≤ 64 := dgs_len (by omega) 63 _ (by have := Nat.div_le_self n b; omega) (by
      have h1 := Nat.div_le_self n b
      have h2 : 16 ^ 16 ≤ b ^ 64 := by rcases hb with rfl | rfl <;> decide
      have h3 : (16 : Nat) ^ 16 = 18446744073709551616 := by decide
      show n / b < b ^ 64
      omega)
    have hz : ((⟨#[48, 49, 50, 51, 52, 53, 54, 55, 56, 57, 97, 98, 99, 100, 101, 102]⟩ : ByteArray).size) = 16 := rfl
    have hmb : n % b < b := Nat.mod_lt _ (by omega)
    have hx := hexD (d := n % b) (by omega)
    have hw : IntKind.u64.wrap (((n % b : Nat) : Int) + 1) = ((n % b + 1 : Nat) : Int) := by rw [wr_u64 (by omega) (by omega)]; omega
    by_cases hlt : n < b
    · rw [dgs_lt hlt]
      rw [Nat.mod_eq_of_lt hlt] at hm hx hw
      refine Runs.of_body Tryz.func36 (by decide) rfl (by simp [Tryz.f36]) ?_
      refine W.of_WE (T0_ok _) mixed M_f36 _ (by kernel_rfl) ?_
      generalize (⟨#[48, 49, 50, 51, 52, 53, 54, 55, 56, 57, 97, 98, 99, 100, 101, 102]⟩ : ByteArray) = HX at *
      simp [Tryz.f36, hb1, show ¬ b ≤ n by omega]
      rw [hm, hw]
      refine ⟨by omega, by omega, by omega, hx⟩
    · have hT := Tab.add_ok (T0_ok Tryz.prog) (oneS_ok (digits_ind hb N (n / b) (by have := Nat.div_lt_self (n := n) (k := b) (by omega) (by omega); omega) (by have := Nat.div_le_self n b; omega)))
      rw [dgs_step (by omega) hn (by omega)]
      refine Runs.of_body Tryz.func36 (by decide) rfl (by simp [Tryz.f36]) ?_
      refine W.of_WE hT mixed M_f36 _ (by kernel_rfl) ?_
      simp [Tryz.f36, hb1, hq, show b ≤ n by omega, oneS_self]
      rw [hm, hw]
      simp only [Int.toNat_natCast, hz, hx, bs_size, bs_append]
      exact ⟨by omega, by omega, by omega, by omega, trivial⟩
theorem runs_ref01_Digits : ∀ args r, SDg args = some r → Runs Tryz.prog 36 args r := by
  intro args r hh
  unfold SDg ifC at hh
  split at hh
  · rename_i n b
    split at hh
    · rename_i hin
      cases hh
      obtain ⟨⟨h0, h1⟩, hb⟩ := hin
      obtain ⟨n, rfl⟩ : ∃ k : Nat, n = k := ⟨n.toNat, by omega⟩
      obtain ⟨b, rfl⟩ : ∃ k : Nat, b = k := ⟨b.toNat, by omega⟩
      exact digits_ind (by omega) (n + 1) n (by omega) (by omega)
    · cases hh
  · cases hh

end Go.Proofs.YtbnjijffkjcmcaaGreatDoor.AL
namespace Go.Proofs.YtbnjijffkjcmcaaGreatDoor.AL
open Go
/-! What the reference's groups of bits are. -/
theorem fold_bits : ∀ (k : Nat) (M : Int), 0 ≤ M → ((List.range k).map fun j => M / 2 ^ (k - 1 - j) % 2).foldl (fun n x => n * 2 + x) 0 = M % 2 ^ k
  | 0, M, _ => by simp
  | k + 1, M, h => by
    rw [List.range_succ, List.map_append, List.foldl_append]
    have e : (List.range k).map (fun j => M / 2 ^ (k + 1 - 1 - j) % 2) = (List.range k).map (fun j => M / 2 / 2 ^ (k - 1 - j) % 2) := by
      refine List.map_congr_left fun j hj => ?_
      have hjk : j < k := List.mem_range.1 hj
      rw [show k + 1 - 1 - j = 1 + (k - 1 - j) by omega, ipow_add, ← Int.ediv_ediv_of_nonneg (by decide)]
      rfl
    rw [e, fold_bits k (M / 2) (by omega)]
    simp only [List.map_cons, List.map_nil, List.foldl_cons, List.foldl_nil, Nat.add_sub_cancel, Nat.sub_self, Int.pow_zero, Int.ediv_one]
    rw [ipow_succ, Int.mul_comm (2 ^ k) 2]
    have hp := ipow_pos k
    have h1 := Int.emod_emod_of_dvd M (Int.dvd_mul_right 2 (2 ^ k))
    have h2 : M % (2 * 2 ^ k) = M - 2 * 2 ^ k * (M / (2 * 2 ^ k)) := by have := Int.emod_add_mul_ediv M (2 * 2 ^ k); omega
    have h3 : M / 2 % 2 ^ k = M / 2 - 2 ^ k * (M / 2 / 2 ^ k) := by have := Int.emod_add_mul_ediv (M / 2) (2 ^ k); omega
    rw [h2, h3, Int.ediv_ediv_of_nonneg (by decide)]
    generalize M / (2 * 2 ^ k) = Q
    rw [Int.mul_assoc]
    generalize (2 : Int) ^ k * Q = R
    omega
theorem rg_slice {w i k : Nat} (f : Nat → Int) (h : i + k ≤ w) : ((rg w f).drop i).take k = rg k fun j => f (i + j) := by
  refine List.ext_getElem? fun j => ?_
  unfold rg
  by_cases hj : j < k
  · rw [List.getElem?_take, if_pos hj, List.getElem?_drop, List.getElem?_map, List.getElem?_map, List.getElem?_range (by omega), List.getElem?_range hj]
    rfl
  · rw [List.getElem?_take, if_neg hj, List.getElem?_eq_none (by simp; omega)]
theorem join_snoc (sep q : List UInt8) : ∀ (ps : List (List UInt8)), ps ≠ [] → Lib.join (ps ++ [q]) sep = Lib.join ps sep ++ sep ++ q
  | [], h => absurd rfl h
  | [p], _ => by
    rw [List.singleton_append, join_cons2]; simp [Lib.join]
  | p :: p2 :: ps, _ => by
    rw [List.cons_append, List.cons_append, join_cons2, join_cons2]
    have := join_snoc sep q (p2 :: ps) (by simp)
    rw [List.cons_append] at this
    rw [this]
    simp [List.append_assoc]
theorem hj_snoc (L : List Nat) (k : Nat) (h : k < L.length) : hj (L.take (k + 1)) = if k = 0 then dgs 16 L[k] else hj (L.take k) ++ 58 :: dgs 16 L[k] := by
  unfold hj
  rw [List.take_succ_eq_append_getElem h, List.map_append]
  split
  · rename_i h0; subst h0; simp [Lib.join]
  · rename_i h0
    rw [List.map_cons, List.map_nil, join_snoc _ _ _ (by
      intro e
      rw [List.map_eq_nil_iff, List.take_eq_nil_iff] at e
      rcases e with e | e
      · omega
      · subst e; simp at h)]
    simp
end Go.Proofs.YtbnjijffkjcmcaaGreatDoor.AL
namespace Go.Proofs.YtbnjijffkjcmcaaGreatDoor.AL
open Go
attribute [local simp] qf cv qbin ibin sbin qun retPost rvOk ctV ctPost marksOk retV resAll resOf V.lt ltL V.ren renL V.exp V.exp1 cleanL V.clean closedL V.closed V.cells V.one V.tree
  loadV cellsAt isNC nilQ isSlD isIfD slNew ownRows ownCells V.isOwn slStore srcO qlook mlook mget mstr zval qnone qmake mput lmap isAggD placesOf fillV putCells lstore bound seqParts V.sh shL Blk.sh newV V.ok peqs peq srcRows qbytes byteSl appOk mmV mmR hidE V.fz fzL Blk.fz fzOk and_assoc
attribute [-simp] Int.not_le Int.not_lt Nat.not_le Nat.not_lt
/-! The reference's groups of bits; its groups with colons. -/
def grpI (l : List Int) : Int := l.foldl (fun n x => n * 2 + x) 0
theorem grpI_bd : ∀ (l : List Int), (∀ b ∈ l, b = 0 ∨ b = 1) → ∀ n : Int, 0 ≤ n → 0 ≤ l.foldl (fun n x => n * 2 + x) n ∧ l.foldl (fun n x => n * 2 + x) n < (n + 1) * 2 ^ l.length
  | [], _, n, hn => by simp; omega
  | x :: l, h, n, hn => by
    have hx := h x (by simp)
    have := grpI_bd l (fun b hb => h b (by simp [hb])) (n * 2 + x) (by omega)
    rw [List.foldl_cons, List.length_cons, ipow_succ]
    refine ⟨this.1, Int.lt_of_lt_of_le this.2 ?_⟩
    rw [Int.mul_comm (2 ^ l.length) 2, ← Int.mul_assoc]
    exact Int.mul_le_mul_of_nonneg_right (by omega) (Int.le_of_lt (ipow_pos _))
theorem grpI_take {l : List Int} {k : Nat} (hb : ∀ b ∈ l, b = 0 ∨ b = 1) (hl : l.length ≤ 16) : 0 ≤ grpI (l.take k) ∧ grpI (l.take k) < 65536 := by
  have := grpI_bd (l.take k) (fun b h => hb b (List.mem_of_mem_take h)) 0 (by omega)
  refine ⟨this.1, Int.lt_of_lt_of_le this.2 ?_⟩
  have h1 : (l.take k).length ≤ 16 := by simp; omega
  have h2 := Nat.pow_le_pow_right (n := 2) (by omega) h1
  have h3 : ((2 ^ (l.take k).length : Nat) : Int) = 2 ^ (l.take k).length := ipow _
  omega
theorem grpI_snoc {l : List Int} {k : Nat} (h : k < l.length) : grpI (l.take (k + 1)) = grpI (l.take k) * 2 + l[k] := by
  unfold grpI
  rw [List.take_succ_eq_append_getElem h, List.foldl_append]; rfl
noncomputable def SGrp : List V → Option Res
  | [.rd 1 rows] => match intsOf rows with
    | some l => ifC (bits01 l = true ∧ l.length ≤ 16) (some ⟨.int .u64 (grpI l), []⟩)
    | none => none
  | _ => none
theorem intsOf_eq' : ∀ {rows : List (List V)} {l : List Int}, intsOf rows = some l → rows = l.map fun x => [.int .i64 x]
  | [], l, h => by cases h; rfl
  | [.int .i64 x] :: rows, l, h => by
    simp only [intsOf, Option.map_eq_some_iff] at h
    obtain ⟨m, hm, rfl⟩ := h
    rw [intsOf_eq' hm]; rfl
def M_f39 : Md := fun i => some #[]
@[simp] theorem M_f39_eq {i : Nat} : M_f39 i = (some #[]) := rfl
theorem runs_ref01_group : ∀ args r, SGrp args = some r → Runs Tryz.prog 39 args r := by
  intro args r hh
  unfold SGrp at hh
  split at hh
  · rename_i rows
    split at hh
    · rename_i l hl
      obtain rfl : rows = l.map fun x => [.int .i64 x] := intsOf_eq' hl
      unfold ifC at hh
      split at hh
      · rename_i hin
        cases hh
        obtain ⟨hb, hlen⟩ := hin
        rw [bits01_iff] at hb
        have hln : (l.map fun x => [V.int .i64 x]).length = l.length := by simp
        have hgt : ∀ k, (h : k < l.length) → (l.map fun x => [V.int .i64 x])[k]? = some [.int .i64 l[k]] := fun k h => by rw [List.getElem?_map, List.getElem?_eq_getElem h]; rfl
        generalize (l.map fun x => [V.int .i64 x]) = RW at *
        refine Runs.of_body Tryz.func39 (by decide) rfl (by simp [Tryz.f39]) ?_
        refine W.seqE (T0_ok _) mixed M_f39 (by kernel_rfl) ?_
        simp [Tryz.f39]
        refine W.seqE (T0_ok _) mixed M_f39 (by kernel_rfl) ?_
        simp
        refine W.cut True [(3, .int .u64 (grpI l))] [] 20 ?_ ?_
        · refine W.seqE (T0_ok _) mixed M_f39 (by kernel_rfl) ?_
          simp [Tryz.f39]
          refine W.block (W.for (fun _ => True) (fun k => [(0, .rd 1 RW), (3, .int .u64 (grpI (l.take k))), (4, .int .i64 k)]) (fun _ => []) 20 l.length trivial ?_ ?_)
          · simp [grpI]
          · intro k hk _
            refine W.of_WE (T0_ok _) mixed M_f39 _ (by kernel_rfl) ?_
            by_cases hlt : k < l.length
            · have h1 := grpI_take (k := k) hb hlen
              have h2 := grpI_take (k := k + 1) hb hlen
              have h3 := grpI_snoc hlt
              have h4 := hb l[k] (List.getElem_mem hlt)
              have h5 := hgt k hlt
              obtain ⟨h5a, h5b⟩ := List.getElem?_eq_some_iff.1 h5
              generalize l[k] = x at *
              have w1 : IntKind.i64.wrap ((k : Int) + 1) = ((k + 1 : Nat) : Int) := by rw [wr_i64 (by omega) (by omega)]; omega
              have w2 : IntKind.u64.wrap (grpI (l.take k) * 2) = grpI (l.take k) * 2 := wr_u64 (by omega) (by omega)
              have w3 : IntKind.u64.wrap x = x := wr_u64 (by omega) (by omega)
              have w4 : IntKind.u64.wrap (grpI (l.take k) * 2 + x) = grpI (l.take (k + 1)) := by rw [h3, wr_u64 (by omega) (by omega)]
              simp [hln, hlt, h5b, w1, w2, w3, w4, List.getD_eq_getElem?_getD]
            · obtain rfl : k = l.length := by omega
              simp [hln]
        intro _
        refine W.of_WE (T0_ok _) mixed M_f39 _ (by kernel_rfl) ?_
        simp [Tryz.f39]
      · cases hh
    · cases hh
  · cases hh
def M_f40 : Md := fun i => some #[]
@[simp] theorem M_f40_eq {i : Nat} : M_f40 i = (some #[]) := rfl
theorem runs_ref01_colons : ∀ args r, SJnd args = some r → Runs Tryz.prog 40 args r := by
  intro args r hh
  unfold SJnd at hh
  split at hh
  · rename_i rows
    split at hh
    · rename_i L hL
      obtain rfl : rows = uRows L := parse_eq uOf_eq hL
      unfold ifC at hh
      split at hh
      · rename_i hin
        cases hh
        obtain ⟨hx, hlen⟩ := hin
        have hT : (T0.add 36 SDg).ok Tryz.prog := Tab.add_ok (T0_ok _) runs_ref01_Digits
        have hln : (uRows L).length = L.length := by simp [uRows]
        have hgt : ∀ k, (h : k < L.length) → (uRows L)[k]? = some [.int .u64 (L[k] : Int)] := fun k h => by unfold uRows; rw [List.getElem?_map, List.getElem?_eq_getElem h]; rfl
        generalize uRows L = RW at *
        refine Runs.of_body Tryz.func40 (by decide) rfl (by simp [Tryz.f40]) ?_
        refine W.seqE hT mixed M_f40 (by kernel_rfl) ?_
        simp [Tryz.f40]
        refine W.seqE hT mixed M_f40 (by kernel_rfl) ?_
        simp
        refine W.cut True [(3, .str (bs (hj L)))] [] 23 ?_ ?_
        · refine W.seqE hT mixed M_f40 (by kernel_rfl) ?_
          simp [Tryz.f40]
          refine W.block (W.for (fun _ => True) (fun k => [(0, .rd 1 RW), (3, .str (bs (hj (L.take k)))), (4, .int .i64 k)]) (fun _ => []) 23 L.length trivial ?_ ?_)
          · simp [hj, bs, Lib.join]
          · intro k hk _
            refine W.of_WE hT mixed M_f40 _ (by kernel_rfl) ?_
            by_cases hlt : k < L.length
            · have h1 : (hj (L.take k)).length ≤ 40 := by
                have := hj_len (L.take k) (fun x h => hx x (List.mem_of_mem_take h))
                have h2 : (L.take k).length ≤ 8 := by simp; omega
                omega
              have h3 := hj_snoc L k hlt
              have h5 := hgt k hlt
              have h6 := hx L[k] (List.getElem_mem hlt)
              have h7 := dg_at (n := L[k]) (b := 16) (by omega) (.inr rfl)
              rw [show ((16 : Nat) : Int) = 16 from rfl] at h7
              have h8 : (dgs 16 L[k]).length ≤ 4 := dgs_len (by omega) 3 _ (by omega) (by omega)
              obtain ⟨h5a, h5b⟩ := List.getElem?_eq_some_iff.1 h5
              generalize L[k] = x at *
              have w1 : IntKind.i64.wrap ((k : Int) + 1) = ((k + 1 : Nat) : Int) := by rw [wr_i64 (by omega) (by omega)]; omega
              by_cases hk0 : k = 0
              · subst hk0
                rw [if_pos rfl] at h3
                have e1 : bs (hj []) ++ bs (dgs 16 x) = bs (hj (L.take 1)) := by rw [bs_append, h3]; simp [hj, Lib.join]
                have z1 : (bs (hj [])).size = 0 := rfl
                have z3 : (bs (dgs 16 x)).size ≤ 4 := by rw [bs_size]; omega
                simp [hln, hlt, h5b, h7, show IntKind.i64.wrap 1 = 1 from rfl, e1, z1, List.getD_eq_getElem?_getD]
                omega
              · rw [if_neg hk0] at h3
                have e1 : bs (hj (L.take k)) ++ (⟨#[58]⟩ : ByteArray) = bs (hj (L.take k) ++ [58]) := bs_append _ [58]
                have e2 : bs (hj (L.take k) ++ [58]) ++ bs (dgs 16 x) = bs (hj (L.take (k + 1))) := by rw [bs_append, h3]; simp
                have z1 : (bs (hj (L.take k))).size ≤ 40 := by rw [bs_size]; omega
                have z2 : (bs (hj (L.take k) ++ [58])).size ≤ 41 := by rw [bs_size]; simp; omega
                have z3 : (bs (dgs 16 x)).size ≤ 4 := by rw [bs_size]; omega
                have z4 : (⟨#[58]⟩ : ByteArray).size = 1 := rfl
                simp [hln, hlt, h5b, h7, w1, e1, e2, z4, show 0 < k by omega, List.getD_eq_getElem?_getD]
                omega
            · obtain rfl : k = L.length := by omega
              simp [hln]
        intro _
        refine W.of_WE hT mixed M_f40 _ (by kernel_rfl) ?_
        simp [Tryz.f40]
      · cases hh
    · cases hh
  · cases hh

end Go.Proofs.YtbnjijffkjcmcaaGreatDoor.AL
namespace Go.Proofs.YtbnjijffkjcmcaaGreatDoor.AL
open Go
theorem bt_h {h l : Int} {k : Nat} (hk : 63 < k) : bt h l k = h / 2 ^ (k - 64) % 2 := by unfold bt; rw [if_pos hk]
theorem bt_l {h l : Int} {k : Nat} (hk : ¬ 63 < k) : bt h l k = l / 2 ^ k % 2 := by unfold bt; rw [if_neg hk]
theorem grp_bits (M : Int) (hM : 0 ≤ M) (s k : Nat) : ((List.range k).map fun j => M / 2 ^ (s + (k - 1 - j)) % 2).foldl (fun n x => n * 2 + x) 0 = M / 2 ^ s % 2 ^ k := by
  rw [← fold_bits k (M / 2 ^ s) (Int.ediv_nonneg hM (Int.le_of_lt (ipow_pos s)))]
  congr 1
  refine List.map_congr_left fun j _ => ?_
  rw [ipow_add, Int.ediv_ediv_of_nonneg (Int.le_of_lt (ipow_pos s))]
theorem nat_div_mod (x a b : Nat) : (x : Int) / 2 ^ a % b = ((x / 2 ^ a % b : Nat) : Int) := by
  rw [← ipow a]; norm_cast
theorem grp4_bits (l : Nat) {i : Nat} (hi : i < 4) : ((List.range 8).map fun j => bt 0 (l : Int) (31 - (8 * i + j))).foldl (fun n x => n * 2 + x) 0 = ((b4 l i : Nat) : Int) := by
  have e := grp_bits (l : Int) (by omega) (24 - 8 * i) 8
  have e2 : ((List.range 8).map fun j => bt 0 (l : Int) (31 - (8 * i + j))) = (List.range 8).map fun j => (l : Int) / 2 ^ (24 - 8 * i + (8 - 1 - j)) % 2 := by
    refine List.map_congr_left fun j hj => ?_
    have := List.mem_range.1 hj
    rw [bt_l (by omega), show 31 - (8 * i + j) = 24 - 8 * i + (8 - 1 - j) by omega]
  rw [e2, e]
  exact nat_div_mod l (24 - 8 * i) 256
theorem grp8_bits (h l : Nat) {i : Nat} (hi : i < 8) : ((List.range 16).map fun j => bt (h : Int) (l : Int) (127 - (16 * i + j))).foldl (fun n x => n * 2 + x) 0 = (((G8 h l).getD i 0 : Nat) : Int) := by
  by_cases h4 : i < 4
  · have e := grp_bits (h : Int) (by omega) (48 - 16 * i) 16
    have e2 : ((List.range 16).map fun j => bt (h : Int) (l : Int) (127 - (16 * i + j))) = (List.range 16).map fun j => (h : Int) / 2 ^ (48 - 16 * i + (16 - 1 - j)) % 2 := by
      refine List.map_congr_left fun j hj => ?_
      have := List.mem_range.1 hj
      rw [bt_h (by omega), show 127 - (16 * i + j) - 64 = 48 - 16 * i + (16 - 1 - j) by omega]
    rw [e2, e]
    have e3 : (G8 h l).getD i 0 = grpN h i := by
      have : i = 0 ∨ i = 1 ∨ i = 2 ∨ i = 3 := by omega
      rcases this with rfl | rfl | rfl | rfl <;> rfl
    rw [e3]
    exact nat_div_mod h (48 - 16 * i) 65536
  · have e := grp_bits (l : Int) (by omega) (48 - 16 * (i - 4)) 16
    have e2 : ((List.range 16).map fun j => bt (h : Int) (l : Int) (127 - (16 * i + j))) = (List.range 16).map fun j => (l : Int) / 2 ^ (48 - 16 * (i - 4) + (16 - 1 - j)) % 2 := by
      refine List.map_congr_left fun j hj => ?_
      have := List.mem_range.1 hj
      rw [bt_l (by omega), show 127 - (16 * i + j) = 48 - 16 * (i - 4) + (16 - 1 - j) by omega]
    rw [e2, e]
    have e3 : (G8 h l).getD i 0 = grpN l (i - 4) := by
      have : i = 4 ∨ i = 5 ∨ i = 6 ∨ i = 7 := by omega
      rcases this with rfl | rfl | rfl | rfl <;> rfl
    rw [e3]
    exact nat_div_mod l (48 - 16 * (i - 4)) 65536
theorem zrN_step : ∀ (D : List Nat) (k : Nat) (h : k < D.length), (k + 1 ≤ zrN D ↔ k ≤ zrN D ∧ D[k] = 0)
  | [], k, h => by simp at h
  | x :: D, 0, h => by
    by_cases hx : x = 0 <;> simp [zrN, hx]
  | x :: D, k + 1, h => by
    have ih := zrN_step D k (by simp at h; omega)
    by_cases hx : x = 0
    · simp only [zrN, hx, if_true, List.getElem_cons_succ]
      omega
    · simp [zrN, hx]
end Go.Proofs.YtbnjijffkjcmcaaGreatDoor.AL
namespace Go.Proofs.YtbnjijffkjcmcaaGreatDoor.AL
open Go
attribute [local simp] qf cv qbin ibin sbin qun retPost rvOk ctV ctPost marksOk retV resAll resOf V.lt ltL V.ren renL V.exp V.exp1 cleanL V.clean closedL V.closed V.cells V.one V.tree
  loadV cellsAt isNC nilQ isSlD isIfD slNew ownRows ownCells V.isOwn slStore srcO qlook mlook mget mstr zval qnone qmake mput lmap isAggD placesOf fillV putCells lstore bound seqParts V.sh shL Blk.sh newV V.ok peqs peq srcRows qbytes byteSl appOk mmV mmR hidE V.fz fzL Blk.fz fzOk and_assoc
attribute [-simp] Int.not_le Int.not_lt Nat.not_le Nat.not_lt
/-! The reference's string of an address. -/
theorem grp_at {k : Nat} (g : Nat → Int) (hb : ∀ j, g j = 0 ∨ g j = 1) (hk : k ≤ 16) (v : Int) (hv : ((List.range k).map g).foldl (fun n x => n * 2 + x) 0 = v) : SGrp [.rd 1 (rg k g)] = some ⟨.int .u64 v, []⟩ := by
  simp only [SGrp, intsOf_rg]
  rw [ifC_pos ⟨bits01_rg k g (fun i _ => hb i), by simpa using hk⟩]
  unfold grpI
  rw [hv]
theorem uRows_take (L : List Nat) (k : Nat) : (uRows L).take k = uRows (L.take k) := by unfold uRows; rw [List.map_take]
theorem uRows_drop (L : List Nat) (k : Nat) : (uRows L).drop k = uRows (L.drop k) := by unfold uRows; rw [List.map_drop]
theorem uRows_snoc (L : List Nat) (k : Nat) (h : k < L.length) : uRows (L.take k) ++ [[.int .u64 (L[k] : Int)]] = uRows (L.take (k + 1)) := by
  rw [List.take_succ_eq_append_getElem h]; unfold uRows; rw [List.map_append]; rfl
def t4p (l : Nat) (k : Nat) : List UInt8 := Lib.join ((List.range k).map fun i => dgs 10 (b4 l i)) [46]
theorem t4p_snoc (l k : Nat) : t4p l (k + 1) = if k = 0 then dgs 10 (b4 l k) else t4p l k ++ 46 :: dgs 10 (b4 l k) := by
  unfold t4p
  rw [List.range_succ, List.map_append]
  split
  · rename_i h0; subst h0; simp [Lib.join]
  · rename_i h0
    rw [List.map_cons, List.map_nil, join_snoc _ _ _ (by intro e; rw [List.map_eq_nil_iff] at e; have := congrArg List.length e; simp at this; omega)]
    simp
theorem t4p_len (l : Nat) : ∀ k, (t4p l k).length ≤ 4 * k
  | 0 => by simp [t4p, Lib.join]
  | k + 1 => by
    have ih := t4p_len l k
    have h8 : (dgs 10 (b4 l k)).length ≤ 3 := dgs_len (by omega) 2 _ (by have := b4_lt l k; omega) (by have := b4_lt l k; omega)
    rw [t4p_snoc]
    split
    · omega
    · simp; omega
def M_f15 : Md := fun i => if i = 30 then some #[0, 0, 3, 7, 15, 0, 0, 0, 192, 480, 1007, 2047, 4095, 8191] else some #[]
@[simp] theorem M_f15_eq {i : Nat} : M_f15 i = (if i = 30 then some #[0, 0, 3, 7, 15, 0, 0, 0, 192, 480, 1007, 2047, 4095, 8191] else some #[]) := rfl
theorem runs_ref01_AddrText : ∀ args r, SAddrT args = some r → Runs Tryz.prog 15 args r := by
  intro args r hh
  unfold SAddrT ifC at hh
  split at hh
  · rename_i f h0 l0
    split at hh
    · rename_i hin
      obtain ⟨h, rfl⟩ : ∃ k : Nat, h0 = k := ⟨h0.toNat, by omega⟩
      obtain ⟨l, rfl⟩ : ∃ k : Nat, l0 = k := ⟨l0.toNat, by omega⟩
      cases hh
      simp only [Int.toNat_natCast]
      have hA : inA (h : Int) (l : Int) := ⟨by omega, by omega, by omega, by omega⟩
      have hT : (((((T0.add 37 SAddr).add 38 SBits).add 39 SGrp).add 36 SDg).add 40 SJnd).ok Tryz.prog := Tab.add_ok (Tab.add_ok (Tab.add_ok (Tab.add_ok (Tab.add_ok (T0_ok _) runs_ref01_CheckAddr) runs_ref01_Bits) runs_ref01_group) runs_ref01_Digits) runs_ref01_colons
      refine Runs.of_body Tryz.func15 (by decide) rfl (by simp [Tryz.f15]) ?_
      refine W.seqE hT mixed M_f15 (by kernel_rfl) ?_
      simp [Tryz.f15]
      by_cases hc : cAddr f h l = true
      · rw [if_pos hc]
        have hbits : SBits [.int .u8 f, .agg [.int .u64 (h : Int), .int .u64 (l : Int)]] = some ⟨.own 0, [.sl 1 3 (rg (widN f) fun i => bt h l (widN f - 1 - i))]⟩ := by
          simp only [SBits]; rw [if_pos hA]
        have hca : SAddr [.int .u8 f, .agg [.int .u64 (h : Int), .int .u64 (l : Int)]] = some ⟨.bool true, []⟩ := by simp only [SAddr, hc]
        refine W.cut True [(0, .int .u8 f), (3, .ptr 0 0)] [.box 24 [.int .u64 h, .int .u64 l]] 100 ?_ ?_
        · refine W.of_WE hT mixed M_f15 _ (by kernel_rfl) ?_
          simp [Tryz.f15, hca]
        intro _
        refine W.cut True [(0, .int .u8 f), (6, .own 0)] [.sl 1 3 (rg (widN f) fun i => bt h l (widN f - 1 - i))] 100 ?_ ?_
        · refine W.of_WE hT mixed M_f15 _ (by kernel_rfl) ?_
          simp [Tryz.f15, hbits]
        intro _
        refine W.wk (Wk.freeze 0 (.sl 1 3 (rg (widN f) fun i => bt h l (widN f - 1 - i))) (by simp) (by simp)) ?_
        rcases cAddr_46 hc with rfl | rfl
        · obtain ⟨h00, hl4⟩ := cAddr_4 hc rfl
          obtain rfl : h = 0 := by omega
          have e4 : addrT (4 : Int).toNat 0 l = t4p l 4 := rfl
          rw [e4]
          have hsl : ∀ i, i < 4 → SGrp [.rd 1 (((rg 32 fun j => bt ((0 : Nat) : Int) l (31 - j)).drop (8 * i)).take 8)] = some ⟨.int .u64 ((b4 l i : Nat) : Int), []⟩ := fun i hi => by
            rw [rg_slice _ (by omega)]
            exact grp_at _ (fun j => bt_01 ..) (by omega) _ (grp4_bits l hi)
          have hrl : (rg 32 fun j => bt ((0 : Nat) : Int) l (31 - j)).length = 32 := rg_length _ _
          have hwd : (rg (widN 4) fun i => bt ((0 : Nat) : Int) l (widN 4 - 1 - i)) = (rg 32 fun j => bt ((0 : Nat) : Int) l (31 - j)) := rfl
          rw [hwd]
          generalize (rg 32 fun j => bt ((0 : Nat) : Int) l (31 - j)) = RW at *
          refine W.cut False [] [] 100 ?_ (fun h => h.elim)
          refine W.seqE hT mixed M_f15 (by kernel_rfl) ?_
          simp [Tryz.f15]
          refine W.cond true (by simp) (fun _ => ?_) (by simp)
          refine W.seqE hT mixed M_f15 (by kernel_rfl) ?_
          simp
          refine W.cut True [(7, .str (bs (t4p l 4)))] [] 100 ?_ ?_
          · refine W.seqE hT mixed M_f15 (by kernel_rfl) ?_
            simp [Tryz.f15]
            refine W.block (W.for (fun _ => True) (fun k => [(6, .rd 1 RW), (7, .str (bs (t4p l k))), (8, .int .i64 k)]) (fun _ => []) 100 4 trivial ?_ ?_)
            · simp [t4p, Lib.join, bs]
            · intro k hk _
              refine W.of_WE hT mixed M_f15 _ (by kernel_rfl) ?_
              by_cases hlt : k < 4
              · have g1 := hsl k hlt
                have g2 := dg_at (n := b4 l k) (b := 10) (by have := b4_lt l k; omega) (.inl rfl)
                rw [show ((10 : Nat) : Int) = 10 from rfl] at g2
                have h8 : (dgs 10 (b4 l k)).length ≤ 3 := dgs_len (by omega) 2 _ (by have := b4_lt l k; omega) (by have := b4_lt l k; omega)
                have h1 := t4p_len l k
                have h3 := t4p_snoc l k
                generalize b4 l k = x at *
                have w1 : IntKind.i64.wrap ((k : Int) + 1) = (k : Int) + 1 := by rw [wr_i64 (by omega) (by omega)]
                have w2 : IntKind.i64.wrap (8 * (k : Int)) = 8 * (k : Int) := by rw [wr_i64 (by omega) (by omega)]
                have w3 : IntKind.i64.wrap (8 * (k : Int) + 8) = 8 * (k : Int) + 8 := by rw [wr_i64 (by omega) (by omega)]
                have n1 : (8 * (k : Int)).toNat = 8 * k := by omega
                have n2 : (8 * (k : Int) + 8).toNat = 8 * k + 8 := by omega
                by_cases hk0 : k = 0
                · subst hk0
                  rw [if_pos rfl] at h3
                  have e1 : bs (t4p l 0) ++ bs (dgs 10 x) = bs (t4p l 1) := by rw [bs_append, h3]; simp [t4p, Lib.join]
                  have z1 : (bs (t4p l 0)).size = 0 := rfl
                  have z3 : (bs (dgs 10 x)).size ≤ 3 := by rw [bs_size]; omega
                  simp at g1
                  simp [g1, g2, hrl, show IntKind.i64.wrap 1 = 1 from rfl, show IntKind.i64.wrap 0 = 0 from rfl, show IntKind.i64.wrap 8 = 8 from rfl, e1, z1]
                  omega
                · rw [if_neg hk0] at h3
                  have e1 : bs (t4p l k) ++ (⟨#[46]⟩ : ByteArray) = bs (t4p l k ++ [46]) := bs_append _ [46]
                  have e2 : bs (t4p l k ++ [46]) ++ bs (dgs 10 x) = bs (t4p l (k + 1)) := by rw [bs_append, h3]; simp
                  have z1 : (bs (t4p l k)).size ≤ 12 := by rw [bs_size]; omega
                  have z2 : (bs (t4p l k ++ [46])).size ≤ 13 := by rw [bs_size]; simp; omega
                  have z3 : (bs (dgs 10 x)).size ≤ 3 := by rw [bs_size]; omega
                  have z4 : (⟨#[46]⟩ : ByteArray).size = 1 := rfl
                  simp [hlt, g1, g2, w1, w2, w3, n1, n2, hrl, e1, e2, z4, show 0 < k by omega]
                  omega
              · obtain rfl : k = 4 := by omega
                simp
          intro _
          refine W.of_WE hT mixed M_f15 _ (by kernel_rfl) ?_
          simp [Tryz.f15]
        · have e6 : addrT (6 : Int).toNat h l = text6L (G8 h l) := rfl
          rw [e6]
          have hL := G8_len h l
          have hx := G8_lt h l
          have hsl : ∀ i, i < 8 → SGrp [.rd 1 (((rg 128 fun j => bt (h : Int) l (127 - j)).drop (16 * i)).take 16)] = some ⟨.int .u64 (((G8 h l).getD i 0 : Nat) : Int), []⟩ := fun i hi => by
            rw [rg_slice _ (by omega)]
            exact grp_at _ (fun j => bt_01 ..) (by omega) _ (grp8_bits h l hi)
          have hrl : (rg 128 fun j => bt (h : Int) l (127 - j)).length = 128 := rg_length _ _
          have hwd : (rg (widN 6) fun i => bt (h : Int) l (widN 6 - 1 - i)) = (rg 128 fun j => bt (h : Int) l (127 - j)) := rfl
          rw [hwd]
          generalize (rg 128 fun j => bt (h : Int) l (127 - j)) = RW at *
          generalize G8 h l = L at *
          refine W.cut True [(6, .rd 1 RW)] [] 100 ?_ ?_
          · refine W.of_WE hT mixed M_f15 _ (by kernel_rfl) ?_
            simp [Tryz.f15]
          intro _
          refine W.seqE hT mixed M_f15 (by kernel_rfl) ?_
          simp [Tryz.f15]
          refine W.wk (Wk.adopt 9 1 22 (by omega) (by simp)) ?_
          refine W.cut True [(9, .own 0)] [.sl 1 22 (uRows L)] 100 ?_ ?_
          · refine W.seqE hT mixed M_f15 (by kernel_rfl) ?_
            simp [Tryz.f15]
            refine W.block (W.for (fun _ => True) (fun k => [(6, .rd 1 RW), (9, .own 0), (10, .int .i64 k)]) (fun k => [.sl 1 22 (uRows (L.take k))]) 100 8 trivial ?_ ?_)
            · simp [uRows]
            · intro k hk _
              refine W.of_WE hT mixed M_f15 _ (by kernel_rfl) ?_
              by_cases hlt : k < 8
              · have g1 := hsl k hlt
                have hlt2 : k < L.length := by omega
                have g2 := uRows_snoc L k hlt2
                have g3 : L.getD k 0 = L[k] := by rw [List.getD_eq_getElem?_getD, List.getElem?_eq_getElem hlt2]; rfl
                rw [g3] at g1
                have g4 : (uRows (L.take k)).length = k := by rw [uRows_len]; simp; omega
                generalize L[k] = x at *
                generalize uRows (L.take k) = R1 at *
                have w1 : IntKind.i64.wrap ((k : Int) + 1) = (k : Int) + 1 := by rw [wr_i64 (by omega) (by omega)]
                have w2 : IntKind.i64.wrap (16 * (k : Int)) = 16 * (k : Int) := by rw [wr_i64 (by omega) (by omega)]
                have w3 : IntKind.i64.wrap (16 * (k : Int) + 16) = 16 * (k : Int) + 16 := by rw [wr_i64 (by omega) (by omega)]
                have n1 : (16 * (k : Int)).toNat = 16 * k := by omega
                have n2 : (16 * (k : Int) + 16).toNat = 16 * k + 16 := by omega
                simp [hlt, g1, w1, w2, w3, n1, n2, hrl, g2, g4]
                omega
              · obtain rfl : k = 8 := by omega
                simp
                rw [← hL, List.take_length]
          intro _
          refine W.wk (Wk.freeze 0 (.sl 1 22 (uRows L)) (by simp) (by simp)) ?_
          have hln : (uRows L).length = 8 := by rw [uRows_len, hL]
          refine W.cut (∀ m j, 1 < m → j + m ≤ 8 → ¬ zr L j m) [(9, .rd 1 (uRows L))] [] 100 ?_ ?_
          · refine W.seqE hT mixed M_f15 (by kernel_rfl) ?_
            simp [Tryz.f15]
            refine W.block (W.for (fun k => ∀ m j, 8 - k < m → j + m ≤ 8 → ¬ zr L j m) (fun k => [(9, .rd 1 (uRows L)), (11, .int .i64 (8 - (k : Int)))]) (fun _ => []) 100 7 (fun m j h1 h2 => by omega) ?_ ?_)
            · simp
            · intro k hk hJ
              obtain ⟨n, hn⟩ : ∃ n : Nat, n + k = 8 := ⟨8 - k, by omega⟩
              have e8 : 8 - (k : Int) = (n : Int) := by omega
              have e7 : 8 - ((k + 1 : Nat) : Int) = (n : Int) - 1 := by omega
              have e9 : 8 - k = n := by omega
              rw [e8, e7]
              rw [e9] at hJ
              by_cases hlt : 1 < n
              · refine W.cut True [(9, .rd 1 (uRows L)), (11, .int .i64 n)] [] 100 ?_ ?_
                · refine W.of_WE hT mixed M_f15 _ (by kernel_rfl) ?_
                  simp [Tryz.f15, show (1 : Int) < (n : Int) by omega]
                intro _
                refine W.cut (∀ j, j + n ≤ 8 → ¬ zr L j n) [(9, .rd 1 (uRows L)), (11, .int .i64 n)] [] 100 ?_ ?_
                · refine W.block ?_
                  refine W.seqE hT mixed M_f15 (by kernel_rfl) ?_
                  simp [Tryz.f15]
                  refine W.block (W.for (fun a => ∀ j, j < a → ¬ zr L j n) (fun a => [(9, .rd 1 (uRows L)), (11, .int .i64 n), (12, .int .i64 a)]) (fun _ => []) 100 (k + 1) (fun j h => by omega) ?_ ?_)
                  · simp
                  · intro a ha hJa
                    have w1 : IntKind.i64.wrap ((a : Int) + (n : Int)) = (a : Int) + (n : Int) := by rw [wr_i64 (by omega) (by omega)]
                    have w2 : IntKind.i64.wrap ((a : Int) + 1) = (a : Int) + 1 := by rw [wr_i64 (by omega) (by omega)]
                    by_cases hla : a + n ≤ 8
                    · refine W.cut True [(9, .rd 1 (uRows L)), (11, .int .i64 n), (12, .int .i64 a)] [] 100 ?_ ?_
                      · refine W.of_WE hT mixed M_f15 _ (by kernel_rfl) ?_
                        simp [Tryz.f15, w1, show (a : Int) + (n : Int) ≤ 8 by omega]
                      intro _
                      refine W.cut (¬ zr L a n) [(9, .rd 1 (uRows L)), (11, .int .i64 n), (12, .int .i64 a)] [] 100 ?_ ?_
                      · refine W.block ?_
                        refine W.seqE hT mixed M_f15 (by kernel_rfl) ?_
                        simp [Tryz.f15]
                        refine W.cut True [(9, .rd 1 (uRows L)), (11, .int .i64 n), (12, .int .i64 a), (13, .bool (decide (n ≤ zrN (L.drop a))))] [] 100 ?_ ?_
                        · refine W.seqE hT mixed M_f15 (by kernel_rfl) ?_
                          simp [Tryz.f15]
                          refine W.block (W.for (fun _ => True) (fun c => [(9, .rd 1 (uRows L)), (11, .int .i64 n), (12, .int .i64 a), (13, .bool (decide (c ≤ zrN (L.drop a)))), (14, .int .i64 ((a : Int) + (c : Int)))]) (fun _ => []) 100 n trivial ?_ ?_)
                          · simp
                          · intro c hc _
                            refine W.of_WE hT mixed M_f15 _ (by kernel_rfl) ?_
                            by_cases hlc : c < n
                            · have hd : c < (L.drop a).length := by simp; omega
                              have hst := zrN_step (L.drop a) c hd
                              have hge : (L.drop a)[c] = L[a + c] := by simp
                              rw [hge] at hst
                              have hgu : (uRows L)[a + c]? = some [.int .u64 (L[a + c] : Int)] := by unfold uRows; rw [List.getElem?_map, List.getElem?_eq_getElem (by omega)]; rfl
                              have w3 : IntKind.i64.wrap ((a : Int) + (c : Int) + 1) = (a : Int) + (c : Int) + 1 := by rw [wr_i64 (by omega) (by omega)]
                              have n3 : ((a : Int) + (c : Int)).toNat = a + c := by omega
                              have h3 : (a : Int) + (c : Int) < (a : Int) + (n : Int) := by omega
                              have h4 : (a : Int) + (c : Int) < 8 := by omega
                              have h5 : (0 : Int) ≤ (a : Int) + (c : Int) := by omega
                              generalize L[a + c] = x at *
                              generalize zrN (L.drop a) = zz at *
                              by_cases hcz : c ≤ zz
                              · by_cases hx0 : x = 0
                                · have hc1 : c + 1 ≤ zz := hst.2 ⟨hcz, hx0⟩
                                  simp [w1, w3, n3, hln, hgu, hcz, hx0, hc1, h3, h4, h5, hlc, List.getD_eq_getElem?_getD]
                                  omega
                                · have hc1 : ¬ c + 1 ≤ zz := fun q => hx0 (hst.1 q).2
                                  simp [w1, w3, n3, hln, hgu, hcz, hx0, hc1, h3, h4, h5, hlc, List.getD_eq_getElem?_getD]
                                  omega
                              · have hc1 : ¬ c + 1 ≤ zz := by omega
                                simp [w1, w3, n3, hln, hcz, hc1, h3, h4, h5, hlc, List.getD_eq_getElem?_getD]
                                omega
                            · obtain rfl : c = n := by omega
                              simp [w1]
                        intro _
                        refine W.of_WE hT mixed M_f15 _ (by kernel_rfl) ?_
                        by_cases hz : n ≤ zrN (L.drop a)
                        · have hf := lrun_found hL (i := a) (n := n) (by omega) hla hz hJ hJa
                          have ht : text6L L = hj (L.take a) ++ 58 :: 58 :: hj (L.drop (a + n)) := by
                            unfold text6L
                            rw [hf, if_neg (by show ¬ n < 2; omega)]
                          have j1 := jnd_at (L := L.take a) (fun x h => hx x (List.mem_of_mem_take h)) (by simp; omega)
                          have j2 := jnd_at (L := L.drop (a + n)) (fun x h => hx x (List.mem_of_mem_drop h)) (by simp; omega)
                          have l1 := hj_len (L.take a) (fun x h => hx x (List.mem_of_mem_take h))
                          have l2 := hj_len (L.drop (a + n)) (fun x h => hx x (List.mem_of_mem_drop h))
                          have l3 : (L.take a).length ≤ 8 := by simp; omega
                          have l4 : (L.drop (a + n)).length ≤ 8 := by simp; omega
                          have t1 : (uRows L).take a = uRows (L.take a) := uRows_take L a
                          have t2 : ((uRows L).drop (a + n)).take (8 - (a + n)) = uRows (L.drop (a + n)) := by
                            rw [uRows_drop, uRows_take, List.take_of_length_le (by simp; omega)]
                          rw [ht]
                          have e1 : bs (hj (L.take a)) ++ (⟨#[58, 58]⟩ : ByteArray) = bs (hj (L.take a) ++ [58, 58]) := bs_append _ [58, 58]
                          have e2 : bs (hj (L.take a) ++ [58, 58]) ++ bs (hj (L.drop (a + n))) = bs (hj (L.take a) ++ 58 :: 58 :: hj (L.drop (a + n))) := by rw [bs_append]; simp
                          have z1 : (bs (hj (L.take a))).size ≤ 40 := by rw [bs_size]; omega
                          have z2 : (bs (hj (L.take a) ++ [58, 58])).size ≤ 42 := by rw [bs_size]; simp; omega
                          have z3 : (bs (hj (L.drop (a + n)))).size ≤ 40 := by rw [bs_size]; omega
                          have z4 : (⟨#[58, 58]⟩ : ByteArray).size = 2 := rfl
                          have n3 : ((a : Int) + (n : Int)).toNat = a + n := by omega
                          generalize uRows (L.take a) = R1 at *
                          generalize uRows (L.drop (a + n)) = R2 at *
                          simp [Tryz.f15, hz, w1, n3, hln, t1, t2, j1, j2, e1, e2, z4]
                          omega
                        · simp [Tryz.f15, hz]
                          exact hz
                      intro hz
                      refine W.of_WE hT mixed M_f15 _ (by kernel_rfl) ?_
                      simp [Tryz.f15, w2]
                      refine ⟨by omega, fun j h => ?_⟩
                      by_cases hja : j = a
                      · rw [hja]; exact hz
                      · exact hJa j (by omega)
                    · refine W.of_WE hT mixed M_f15 _ (by kernel_rfl) ?_
                      simp [Tryz.f15, w1, show ¬ (a : Int) + (n : Int) ≤ 8 by omega]
                      intro j h
                      exact hJa j (by omega)
                intro hz
                refine W.of_WE hT mixed M_f15 _ (by kernel_rfl) ?_
                have w2 : IntKind.i64.wrap ((n : Int) - 1) = (n : Int) - 1 := by rw [wr_i64 (by omega) (by omega)]
                simp [Tryz.f15, w2]
                refine ⟨by omega, fun m j h1 h2 => ?_⟩
                by_cases hmn : m = n
                · rw [hmn]; exact hz j (by omega)
                · exact hJ m j (by omega) h2
              · refine W.of_WE hT mixed M_f15 _ (by kernel_rfl) ?_
                simp [Tryz.f15, show ¬ (1 : Int) < (n : Int) by omega]
                intro m j h1 h2
                exact hJ m j (by omega) h2
          intro hno
          have hnot := lrun_not hL (fun m j h1 h2 => hno m j h1 h2)
          have ht : text6L L = hj L := by unfold text6L; rw [if_pos hnot]
          rw [ht]
          have hjn := jnd_at hx (by omega)
          refine W.of_WE hT mixed M_f15 _ (by kernel_rfl) ?_
          simp [Tryz.f15, hjn]
      · rw [if_neg hc]
        have hca : SAddr [.int .u8 f, .agg [.int .u64 (h : Int), .int .u64 (l : Int)]] = some ⟨.bool false, []⟩ := by simp only [SAddr, hc]
        refine W.cut False [] [] 100 ?_ (fun h => h.elim)
        refine W.of_WE hT mixed M_f15 _ (by kernel_rfl) ?_
        simp [Tryz.f15, hca, bs]
    · cases hh
  · cases hh

end Go.Proofs.YtbnjijffkjcmcaaGreatDoor.AL
