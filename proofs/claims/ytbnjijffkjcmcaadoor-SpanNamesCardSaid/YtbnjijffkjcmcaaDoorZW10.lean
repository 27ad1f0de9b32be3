import Derived.Test.YtbnjijffkjcmcaaDoorZW9
import Derived.Test.YtbnjijffkjcmcaaDoorZW6
import Derived.Test.YtbnjijffkjcmcaaDoorZW4
import Derived.Test.YtbnjijffkjcmcaaDoorZW8
/- What single functions compute: a part of the proof; no conditions. -/
set_option linter.unusedVariables false
set_option linter.unusedSimpArgs false
set_option maxRecDepth 100000
namespace Go.Proofs.YtbnjijffkjcmcaaDoor.AL
open Go
attribute [local simp] qf cv qbin ibin sbin qun retPost rvOk ctV ctPost marksOk retV resAll resOf V.lt ltL V.ren renL V.exp V.exp1 cleanL V.clean closedL V.closed V.cells V.one V.tree
  loadV cellsAt isNC nilQ isSlD isIfD slNew ownRows ownCells V.isOwn slStore srcO qlook mlook mget mstr zval qnone qmake mput lmap isAggD placesOf fillV putCells lstore bound seqParts V.sh shL Blk.sh newV V.ok peqs peq srcRows qbytes byteSl appOk mmV mmR hidE V.fz fzL Blk.fz fzOk and_assoc
attribute [-simp] Int.not_le Int.not_lt Nat.not_le Nat.not_lt
/-! An address out of a string. -/
def paV : Option (Nat × Nat × Nat) → V
  | some (f, h, l) => .tup [.int .u8 (f : Int), .agg [.int .u64 (h : Int), .int .u64 (l : Int)], .int .i64 0]
  | none => .tup [.int .u8 0, .agg [.int .u64 0, .int .u64 0], .int .i64 12]
noncomputable def SAP : List V → Option Res
  | [.str s] => ifC (s.size < 100000) (some ⟨paV (pa s.data.toList), []⟩)
  | _ => none
theorem ap_at {l : List UInt8} (h : l.length < 100000) : SAP [.str (bs l)] = some ⟨paV (pa l), []⟩ := by
  simp only [SAP, bs_size, bs_data]
  rw [ifC_pos h]
def M_f19 : Md := fun i => if i = 9 then some #[0, 0, 1, 7, 15] else some #[]
@[simp] theorem M_f19_eq {i : Nat} : M_f19 i = (if i = 9 then some #[0, 0, 1, 7, 15] else some #[]) := rfl
theorem runs_AddrParse : ∀ args r, SAP args = some r → Runs Tryd.prog 19 args r := by
  intro args r hh
  unfold SAP ifC at hh
  split at hh
  · rename_i s0
    obtain ⟨l, rfl⟩ := bs_ex s0
    rw [bs_size, bs_data] at hh
    split at hh
    · rename_i hlen
      cases hh
      have hT : ((((T0.add 56 SP4).add 57 SCont).add 58 SP6).add 17 SAddrT).ok Tryd.prog := Tab.add_ok (Tab.add_ok (Tab.add_ok (Tab.add_ok (T0_ok _) runs_parse4) runs_Cont) runs_parse6) runs_AddrText
      have h4 := p4_at hlen
      have h6 := p6_at hlen
      have hct : SCont [.str (bs l), .str ⟨#[58]⟩] = some ⟨.bool (l.contains 58), []⟩ := cont_at
      have b4 := parse4_lt l
      obtain ⟨b6, b6'⟩ := parse6_lt l
      have ht4 := addrT_at (f := 4) (h := 0) (l := parse4L l) (by decide) (by omega)
      have ht6 := addrT_at (f := 6) (h := (parse6L l).1) (l := (parse6L l).2) b6 b6'
      rw [if_pos (by unfold cAddr; simp; omega)] at ht4
      rw [if_pos (by unfold cAddr; simp)] at ht6
      have hpa : pa l = if 50 < l.length then none else if l.contains 58 then (if addrT 6 (parse6L l).1 (parse6L l).2 = l then some (6, (parse6L l).1, (parse6L l).2) else none) else if addrT 4 0 (parse4L l) = l then some (4, 0, parse4L l) else none := rfl
      rw [hpa]
      rw [show (4 : Int).toNat = 4 from rfl, show ((0 : Nat) : Int) = 0 from rfl] at ht4
      rw [show (6 : Int).toNat = 6 from rfl] at ht6
      clear hpa
      generalize l.contains 58 = ct at *
      generalize hX4 : addrT 4 0 (parse4L l) = X4 at *
      generalize hX6 : addrT 6 (parse6L l).1 (parse6L l).2 = X6 at *
      refine Runs.of_body Tryd.func19 (by decide) rfl (by simp [Tryd.f19]) ?_
      by_cases hlong : 50 < l.length
      · have hl' : (50 : Int) < l.length := by omega
        rw [if_pos hlong]
        refine W.seqE hT mixed M_f19 (by kernel_rfl) ?_
        simp [Tryd.f19]
        refine W.cut False [] [] 29 ?_ (fun h => h.elim)
        refine W.of_WE hT mixed M_f19 _ (by kernel_rfl) ?_
        simp [Tryd.f19, bs_size, hl', paV]
      · have hl' : ¬ (50 : Int) < l.length := by omega
        rw [if_neg hlong]
        refine W.seqE hT mixed M_f19 (by kernel_rfl) ?_
        simp [Tryd.f19]
        refine W.seqE hT mixed M_f19 (by kernel_rfl) ?_
        simp [Tryd.f19, bs_size, hl']
        refine W.seqE hT mixed M_f19 (by kernel_rfl) ?_
        simp [Tryd.f19, h4]
        cases ct with
        | false =>
          refine W.of_WE hT mixed M_f19 _ (by kernel_rfl) ?_
          by_cases hx : X4 = l
          · subst hx
            simp [Tryd.f19, hct, ht4, bs_toList, paV]
          · simp [Tryd.f19, hct, ht4, bs_toList, paV, hx]
        | true =>
          refine W.of_WE hT mixed M_f19 _ (by kernel_rfl) ?_
          by_cases hx : X6 = l
          · simp [Tryd.f19, hct, h6, ht6, bs_toList, paV, hx]
          · simp [Tryd.f19, hct, h6, ht6, bs_toList, paV, hx]
    · cases hh
  · cases hh

end Go.Proofs.YtbnjijffkjcmcaaDoor.AL
namespace Go.Proofs.YtbnjijffkjcmcaaDoor.AL
open Go
attribute [local simp] qf cv qbin ibin sbin qun retPost rvOk ctV ctPost marksOk retV resAll resOf V.lt ltL V.ren renL V.exp V.exp1 cleanL V.clean closedL V.closed V.cells V.one V.tree
  loadV cellsAt isNC nilQ isSlD isIfD slNew ownRows ownCells V.isOwn slStore srcO qlook mlook mget mstr zval qnone qmake mput lmap isAggD placesOf fillV putCells lstore bound seqParts V.sh shL Blk.sh newV V.ok peqs peq srcRows qbytes byteSl appOk mmV mmR hidE V.fz fzL Blk.fz fzOk and_assoc
attribute [-simp] Int.not_le Int.not_lt Nat.not_le Nat.not_lt
/-! Strings of prefixes. -/
noncomputable def SChkN : List V → Option Res
  | [.agg [.int .u8 f, .int .u64 h, .int .u64 l, .int .i64 n]] => ifC (inA h l) (some ⟨.int .i64 (chkP f h l n), []⟩)
  | _ => none
theorem runs_ChkN : ∀ args r, SChkN args = some r → Runs Tryd.prog 14 args r := by
  intro args r hh
  unfold SChkN ifC at hh
  split at hh
  · split at hh
    · rename_i h
      cases hh
      exact runs_number_Check _ _ (by simp only [SCheck]; rw [if_pos h])
    · cases hh
  · cases hh
theorem chkN_at {f n : Int} {h l : Nat} (hh : h < 18446744073709551616) (hl : l < 18446744073709551616) : SChkN [.agg [.int .u8 f, .int .u64 (h : Int), .int .u64 (l : Int), .int .i64 n]] = some ⟨.int .i64 (chkP f h l n), []⟩ := by
  simp only [SChkN]
  rw [ifC_pos ⟨by omega, by omega, by omega, by omega⟩]
noncomputable def STx : List V → Option Res
  | [.agg [.int .u8 f, .int .u64 h, .int .u64 l, .int .i64 n]] => ifC (inA h l) (some ⟨if chkP f h l n = 0 then .tup [.str (bs (ppT f.toNat h.toNat l.toNat n.toNat)), .int .i64 0] else .tup [.str (bs []), .int .i64 (chkP f h l n)], []⟩)
  | _ => none
theorem tx_at {f n : Int} {h l : Nat} (hh : h < 18446744073709551616) (hl : l < 18446744073709551616) : STx [.agg [.int .u8 f, .int .u64 (h : Int), .int .u64 (l : Int), .int .i64 n]] =
    some ⟨if chkP f h l n = 0 then .tup [.str (bs (ppT f.toNat h l n.toNat)), .int .i64 0] else .tup [.str (bs []), .int .i64 (chkP f h l n)], []⟩ := by
  simp only [STx]
  rw [ifC_pos ⟨by omega, by omega, by omega, by omega⟩]
  rfl
theorem chk_addr {f n : Int} {h l : Nat} (hc : chkP f h l n = 0) : cAddr f h l = true ∧ ∃ j : Nat, n = j ∧ j ≤ 128 := by
  obtain ⟨j, e, hj, h1, _⟩ := chk_zero hc
  have := widN_le f
  exact ⟨h1, j, e, by omega⟩
def M_f21 : Md := fun i => some #[]
@[simp] theorem M_f21_eq {i : Nat} : M_f21 i = (some #[]) := rfl
theorem runs_number_Text : ∀ args r, STx args = some r → Runs Tryd.prog 21 args r := by
  intro args r hh
  unfold STx ifC at hh
  split at hh
  · rename_i f h0 l0 n
    split at hh
    · rename_i hin
      obtain ⟨a1, a2, a3, a4⟩ := hin
      obtain ⟨h, rfl⟩ := Int.eq_ofNat_of_zero_le a1
      obtain ⟨l, rfl⟩ := Int.eq_ofNat_of_zero_le a3
      cases hh
      rw [Int.toNat_natCast, Int.toNat_natCast]
      have hT : (((T0.add 14 SChkN).add 17 SAddrT).add 60 SIto).ok Tryd.prog := Tab.add_ok (Tab.add_ok (Tab.add_ok (T0_ok _) runs_ChkN) runs_AddrText) runs_Ito
      have hck := chkN_at (f := f) (n := n) (h := h) (l := l) (by omega) (by omega)
      have hat := addrT_at (f := f) (h := h) (l := l) (by omega) (by omega)
      refine Runs.of_body Tryd.func21 (by decide) rfl (by simp [Tryd.f21]) ?_
      by_cases hc : chkP f h l n = 0
      · obtain ⟨hca, j, rfl, hj⟩ := chk_addr hc
        have hit := ito_at (n := j) (by omega)
        have hlen := addrT_len f.toNat h l
        have hdl : (dgs 10 j).length ≤ 3 := dgs_len (by omega) 2 j (by omega) (by omega)
        rw [if_pos hc, Int.toNat_natCast]
        rw [if_pos hca] at hat
        rw [hc] at hck
        have e : ppT f.toNat h l j = addrT f.toNat h l ++ 47 :: dgs 10 j := rfl
        rw [e]
        generalize addrT f.toNat h l = X at *
        generalize dgs 10 j = Y at *
        have hc1 : bs X ++ ⟨#[47]⟩ = bs (X ++ [47]) := bs_append X [47]
        have hc2 : bs (X ++ [47]) ++ bs Y = bs (X ++ 47 :: Y) := by rw [bs_append]; simp
        have hz : (⟨#[47]⟩ : ByteArray).size = 1 := rfl
        have hz1 : ((bs X).size : Int) + 1 ≤ 9223372036854775807 := by rw [bs_size]; omega
        have hz2 : ((bs (X ++ [47])).size : Int) + (bs Y).size ≤ 9223372036854775807 := by rw [bs_size, bs_size]; simp; omega
        refine W.of_WE hT mixed M_f21 _ (by kernel_rfl) ?_
        simp [Tryd.f21, hck, hat, hit, hc1, hc2, hz, hz1, hz2]
      · rw [if_neg hc]
        generalize chkP f h l n = ck at *
        refine W.of_WE hT mixed M_f21 _ (by kernel_rfl) ?_
        simp [Tryd.f21, hck, hc]
        rfl
    · cases hh
  · cases hh
def ppV : Option (Nat × Nat × Nat × Nat) → V
  | some (f, h, l, n) => .tup [.agg [.int .u8 (f : Int), .int .u64 (h : Int), .int .u64 (l : Int), .int .i64 (n : Int)], .int .i64 0]
  | none => .tup [.agg [.int .u8 0, .int .u64 0, .int .u64 0, .int .i64 0], .int .i64 12]
noncomputable def SPf : List V → Option Res
  | [.str s] => ifC (s.size < 100000) (some ⟨ppV (pp s.data.toList), []⟩)
  | _ => none
theorem pf_at {l : List UInt8} (h : l.length < 100000) : SPf [.str (bs l)] = some ⟨ppV (pp l), []⟩ := by
  simp only [SPf, bs_size, bs_data]
  rw [ifC_pos h]
theorem cut_len (c : UInt8) (l : List UInt8) : (Lib.cut l [c]).1.length ≤ l.length ∧ (Lib.cut l [c]).2.1.length ≤ l.length := by
  rw [cut_cutG (by simp)]
  cases h : cutG [c] l with
  | none => simp
  | some p =>
    obtain ⟨a, b⟩ := p
    have := (cutG_len (by simp) h).2
    simp at this ⊢
    omega
theorem pa_lt {s : List UInt8} {f h l : Nat} (e : pa s = some (f, h, l)) : h < 18446744073709551616 ∧ l < 18446744073709551616 ∧ f < 7 := by
  rcases (pa_iff.1 e).1 with ⟨h1, h2, h3⟩ | ⟨h1, h2, h3⟩ <;> omega
def M_f23 : Md := fun i => some #[]
@[simp] theorem M_f23_eq {i : Nat} : M_f23 i = (some #[]) := rfl
theorem runs_number_Parse : ∀ args r, SPf args = some r → Runs Tryd.prog 23 args r := by
  intro args r hh
  unfold SPf ifC at hh
  split at hh
  · rename_i s0
    obtain ⟨s, rfl⟩ := bs_ex s0
    rw [bs_size, bs_data] at hh
    split at hh
    · rename_i hlen
      cases hh
      have hT : ((((T0.add 61 SCutS).add 19 SAP).add 62 SPu).add 21 STx).ok Tryd.prog := Tab.add_ok (Tab.add_ok (Tab.add_ok (Tab.add_ok (T0_ok _) runs_CutS) runs_AddrParse) runs_Pu) runs_number_Text
      have hcl := cut_len 47 s
      have hcut : SCutS [.str (bs s), .str ⟨#[47]⟩] = some ⟨.tup [.str (bs (Lib.cut s [47]).1), .str (bs (Lib.cut s [47]).2.1), .bool (Lib.cut s [47]).2.2], []⟩ := cutS_at (sep := [47]) (by simp) (by omega)
      have hap := ap_at (l := (Lib.cut s [47]).1) (by omega)
      have hpu := pu_at (l := (Lib.cut s [47]).2.1) (b := 10) (w := 8) (c := 10) (M := 255) rfl (by omega)
      have hpp : pp s = match pu 10 255 (Lib.cut s [47]).2.1 with | .ok n => ppX s n (pa (Lib.cut s [47]).1) | _ => none := rfl
      have hpv := pv_le (b := 10) (M := 255) (Lib.cut s [47]).2.1
      have hpve : pv 10 255 (Lib.cut s [47]).2.1 = (pu 10 255 (Lib.cut s [47]).2.1).val 255 := rfl
      have hal := fun f h l => pa_lt (s := (Lib.cut s [47]).1) (f := f) (h := h) (l := l)
      rw [hpp]
      clear hpp
      generalize (Lib.cut s [47]).2.2 = cc at *
      generalize (Lib.cut s [47]).2.1 = cb at *
      generalize (Lib.cut s [47]).1 = ca at *
      generalize pa ca = PA at *
      generalize pv 10 255 cb = N at *
      generalize pu 10 255 cb = PU at *
      have hw1 : IntKind.i64.wrap (N : Int) = N := wr_i64 (by omega) (by omega)
      refine Runs.of_body Tryd.func23 (by decide) rfl (by simp [Tryd.f23]) ?_
      refine W.seqE hT mixed M_f23 (by kernel_rfl) ?_
      simp [Tryd.f23]
      refine W.seqE hT mixed M_f23 (by kernel_rfl) ?_
      simp [Tryd.f23, hcut]
      cases PA with
      | none =>
        have hr : (match PU with | .ok n => ppX s n none | _ => none) = none := by cases PU <;> rfl
        rw [hr]
        have hev := errP_or PU
        generalize errP PU = EV at *
        refine W.of_WE hT mixed M_f23 _ (by kernel_rfl) ?_
        rcases hev with rfl | rfl
        · simp [Tryd.f23, hap, hpu, paV, ppV, hw1]
        · simp [Tryd.f23, hap, hpu, paV, ppV, hw1]
      | some q =>
        obtain ⟨f, h, l⟩ := q
        obtain ⟨hh1, hl1, hf1⟩ := hal f h l rfl
        cases PU with
        | ok n =>
          obtain rfl : N = n := hpve
          have ht := tx_at (f := (f : Int)) (n := (N : Int)) hh1 hl1
          rw [Int.toNat_natCast, Int.toNat_natCast] at ht
          refine W.of_WE hT mixed M_f23 _ (by kernel_rfl) ?_
          by_cases hc : chkP (f : Int) h l N = 0
          · rw [if_pos hc] at ht
            generalize hX : ppT f h l N = X at *
            by_cases hx : X = s
            · have hr : (match PEnd.ok N with | .ok n => ppX s n (some (f, h, l)) | _ => none) = some (f, h, l, N) := by
                show ppX s N (some (f, h, l)) = _
                simp only [ppX]
                rw [if_pos ⟨hc, by rw [hX]; exact hx⟩]
              rw [hr]
              simp [Tryd.f23, hap, hpu, paV, ppV, hw1, errP, PEnd.good, ht, bs_toList, hx]
            · have hr : (match PEnd.ok N with | .ok n => ppX s n (some (f, h, l)) | _ => none) = none := by
                show ppX s N (some (f, h, l)) = _
                simp only [ppX]
                rw [if_neg (fun e => hx (by rw [← hX]; exact e.2))]
              rw [hr]
              simp [Tryd.f23, hap, hpu, paV, ppV, hw1, errP, PEnd.good, ht, bs_toList, hx]
          · have hr : (match PEnd.ok N with | .ok n => ppX s n (some (f, h, l)) | _ => none) = none := by
              show ppX s N (some (f, h, l)) = _
              simp only [ppX]
              rw [if_neg (fun e => hc e.1)]
            rw [hr]
            rw [if_neg hc] at ht
            generalize chkP (f : Int) h l N = ck at *
            simp [Tryd.f23, hap, hpu, paV, ppV, hw1, errP, PEnd.good, ht, bs_toList, hc]
        | synt =>
          refine W.of_WE hT mixed M_f23 _ (by kernel_rfl) ?_
          simp [Tryd.f23, hap, hpu, paV, ppV, hw1, errP, PEnd.good]
        | over =>
          refine W.of_WE hT mixed M_f23 _ (by kernel_rfl) ?_
          simp [Tryd.f23, hap, hpu, paV, ppV, hw1, errP, PEnd.good]
    · cases hh
  · cases hh

end Go.Proofs.YtbnjijffkjcmcaaDoor.AL
namespace Go.Proofs.YtbnjijffkjcmcaaDoor.AL
open Go
attribute [local simp] qf cv qbin ibin sbin qun retPost rvOk ctV ctPost marksOk retV resAll resOf V.lt ltL V.ren renL V.exp V.exp1 cleanL V.clean closedL V.closed V.cells V.one V.tree
  loadV cellsAt isNC nilQ isSlD isIfD slNew ownRows ownCells V.isOwn slStore srcO qlook mlook mget mstr zval qnone qmake mput lmap isAggD placesOf fillV putCells lstore bound seqParts V.sh shL Blk.sh newV V.ok peqs peq srcRows qbytes byteSl appOk mmV mmR hidE V.fz fzL Blk.fz fzOk and_assoc
attribute [-simp] Int.not_le Int.not_lt Nat.not_le Nat.not_lt
/-! Numbers of systems. -/
noncomputable def SAsT : List V → Option Res
  | [.int .u32 a] => ifC (0 ≤ a ∧ a < 4294967296) (some ⟨.str (bs (asT a.toNat)), []⟩)
  | _ => none
theorem ast_at {n : Nat} (h : n < 4294967296) : SAsT [.int .u32 (n : Int)] = some ⟨.str (bs (asT n)), []⟩ := by
  simp only [SAsT]
  rw [ifC_pos ⟨by omega, by omega⟩]
  rfl
theorem runs_AsText : ∀ args r, SAsT args = some r → Runs Tryd.prog 27 args r := by
  intro args r hh
  unfold SAsT ifC at hh
  split at hh
  · rename_i a
    split at hh
    · rename_i hin
      obtain ⟨n, rfl⟩ := Int.eq_ofNat_of_zero_le hin.1
      cases hh
      rw [Int.toNat_natCast]
      have hT : (T0.add 49 SFu).ok Tryd.prog := Tab.add_ok (T0_ok _) runs_Fu
      have hf := fu_at (x := n) (b := 10) (by omega) (.inl rfl)
      rw [show ((10 : Nat) : Int) = 10 from rfl] at hf
      have hw1 : IntKind.u64.wrap (n : Int) = n := wr_u64 (by omega) (by omega)
      have hdl : (dgs 10 n).length ≤ 10 := dgs_len (by omega) 9 n (by omega) (by omega)
      have e : asT n = [65, 83] ++ dgs 10 n := rfl
      rw [e]
      generalize dgs 10 n = Y at *
      have hc2 : (⟨#[65, 83]⟩ : ByteArray) ++ bs Y = bs ([65, 83] ++ Y) := bs_append [65, 83] Y
      have hz : (⟨#[65, 83]⟩ : ByteArray).size = 2 := rfl
      have hz2 : (2 : Int) + (bs Y).size ≤ 9223372036854775807 := by rw [bs_size]; omega
      generalize [65, 83] ++ Y = Z at *
      refine Runs.of_body Tryd.func27 (by decide) rfl (by simp [Tryd.f27]) ?_
      refine W.of_WE hT mixed M0 _ (by kernel_rfl) ?_
      simp [Tryd.f27, hf, hw1, hc2, hz, hz2]
    · cases hh
  · cases hh
def asV : Option Nat → V
  | some n => .tup [.int .u32 (n : Int), .int .i64 0]
  | none => .tup [.int .u32 0, .int .i64 12]
noncomputable def SAsP : List V → Option Res
  | [.str s] => ifC (s.size < 100000) (some ⟨asV (asp s.data.toList), []⟩)
  | _ => none
theorem asp_at {l : List UInt8} (h : l.length < 100000) : SAsP [.str (bs l)] = some ⟨asV (asp l), []⟩ := by
  simp only [SAsP, bs_size, bs_data]
  rw [ifC_pos h]
def M_f25 : Md := fun i => some #[]
@[simp] theorem M_f25_eq {i : Nat} : M_f25 i = (some #[]) := rfl
theorem runs_AsParse : ∀ args r, SAsP args = some r → Runs Tryd.prog 25 args r := by
  intro args r hh
  unfold SAsP ifC at hh
  split at hh
  · rename_i s0
    obtain ⟨s, rfl⟩ := bs_ex s0
    rw [bs_size, bs_data] at hh
    split at hh
    · rename_i hlen
      cases hh
      have hT : (((T0.add 65 SCutP).add 62 SPu).add 27 SAsT).ok Tryd.prog := Tab.add_ok (Tab.add_ok (Tab.add_ok (T0_ok _) runs_CutP) runs_Pu) runs_AsText
      have hcp : SCutP [.str (bs s), .str ⟨#[65, 83]⟩] = some ⟨.tup [.str (bs (Lib.trimPrefix s [65, 83])), .bool (Lib.hasPrefix s [65, 83])], []⟩ := by simp only [SCutP, bs_data]
      have hpu := pu_at (l := Lib.trimPrefix s [65, 83]) (b := 10) (w := 32) (c := 10) (M := 4294967295) rfl (by have := Lib.trimPrefix_le s [65, 83]; omega)
      have hasp : asp s = if Lib.hasPrefix s [65, 83] = true then (match pu 10 4294967295 (Lib.trimPrefix s [65, 83]) with | .ok n => if asT n = s then some n else none | _ => none) else none := rfl
      have hpv := pv_le (b := 10) (M := 4294967295) (Lib.trimPrefix s [65, 83])
      have hpve : pv 10 4294967295 (Lib.trimPrefix s [65, 83]) = (pu 10 4294967295 (Lib.trimPrefix s [65, 83])).val 4294967295 := rfl
      rw [hasp]
      clear hasp
      generalize Lib.trimPrefix s [65, 83] = rs at *
      generalize Lib.hasPrefix s [65, 83] = hp at *
      generalize pv 10 4294967295 rs = N at *
      generalize pu 10 4294967295 rs = PU at *
      have hw1 : IntKind.u32.wrap (N : Int) = N := wr_u32 (by omega) (by omega)
      have hat := ast_at (n := N) (by omega)
      generalize hX : asT N = X at *
      refine Runs.of_body Tryd.func25 (by decide) rfl (by simp [Tryd.f25]) ?_
      refine W.of_WE hT mixed M_f25 _ (by kernel_rfl) ?_
      cases hp with
      | false =>
        rcases errP_or PU with e | e <;> rw [e] at hpu <;> simp [Tryd.f25, hcp, hpu, asV]
      | true =>
        cases PU with
        | ok n =>
          obtain rfl : N = n := hpve
          by_cases hx : X = s
          · simp [Tryd.f25, hcp, hpu, asV, errP, PEnd.good, hat, hw1, bs_toList, hx, hX]
          · simp [Tryd.f25, hcp, hpu, asV, errP, PEnd.good, hat, hw1, bs_toList, hx, hX]
        | synt => simp [Tryd.f25, hcp, hpu, asV, errP, PEnd.good]
        | over => simp [Tryd.f25, hcp, hpu, asV, errP, PEnd.good]
    · cases hh
  · cases hh

end Go.Proofs.YtbnjijffkjcmcaaDoor.AL
namespace Go.Proofs.YtbnjijffkjcmcaaDoor.AL
open Go
attribute [local simp] qf cv qbin ibin sbin qun retPost rvOk ctV ctPost marksOk retV resAll resOf V.lt ltL V.ren renL V.exp V.exp1 cleanL V.clean closedL V.closed V.cells V.one V.tree
  loadV cellsAt isNC nilQ isSlD isIfD slNew ownRows ownCells V.isOwn slStore srcO qlook mlook mget mstr zval qnone qmake mput lmap isAggD placesOf fillV putCells lstore bound seqParts V.sh shL Blk.sh newV V.ok peqs peq srcRows qbytes byteSl appOk mmV mmR hidE V.fz fzL Blk.fz fzOk and_assoc
attribute [-simp] Int.not_le Int.not_lt Nat.not_le Nat.not_lt
/-! The chapter's examples. -/
def SAlive1 : List V → Option Res
  | [] => some ⟨.bool true, []⟩
  | _ => none
theorem ex_pp : pp [49, 48, 46, 50, 46, 48, 46, 48, 47, 49, 54] = some (4, 0, 167903232, 16) := pp_iff.2 ⟨.inr ⟨rfl, rfl, by decide⟩, by kernel_rfl, by kernel_rfl⟩
def M_f16 : Md := fun i => some #[]
@[simp] theorem M_f16_eq {i : Nat} : M_f16 i = (some #[]) := rfl
theorem runs_alive1 : ∀ args r, SAlive1 args = some r → Runs Tryd.prog 16 args r := by
  intro args r hh
  unfold SAlive1 at hh
  split at hh
  · cases hh
    have hT : ((((T0.add 29 SCut).add 21 STx).add 23 SPf).add 17 SAddrT).add 15 SCovers |>.ok Tryd.prog := Tab.add_ok (Tab.add_ok (Tab.add_ok (Tab.add_ok (Tab.add_ok (T0_ok _) runs_number_Cut) runs_number_Text) runs_number_Parse) runs_AddrText) runs_number_Covers
    have h1 : SCut [.int .u8 4, .agg [.int .u64 0, .int .u64 167772160], .int .i64 8] = some ⟨.tup [.agg [.int .u8 4, .int .u64 0, .int .u64 167772160, .int .i64 8], .int .i64 0], []⟩ := by kernel_rfl
    have h2 : STx [.agg [.int .u8 4, .int .u64 0, .int .u64 167772160, .int .i64 8]] = some ⟨.tup [.str ⟨#[49, 48, 46, 48, 46, 48, 46, 48, 47, 56]⟩, .int .i64 0], []⟩ := by
      have := tx_at (f := 4) (n := 8) (h := 0) (l := 167772160) (by decide) (by decide)
      rw [if_pos (by kernel_rfl)] at this
      exact this.trans (by
        have e : ppT (4 : Int).toNat 0 167772160 (8 : Int).toNat = [49, 48, 46, 48, 46, 48, 46, 48, 47, 56] := by kernel_rfl
        rw [e]; rfl)
    have h3 : SPf [.str ⟨#[49, 48, 46, 50, 46, 48, 46, 48, 47, 49, 54]⟩] = some ⟨.tup [.agg [.int .u8 4, .int .u64 0, .int .u64 167903232, .int .i64 16], .int .i64 0], []⟩ := by
      have := pf_at (l := [49, 48, 46, 50, 46, 48, 46, 48, 47, 49, 54]) (by decide)
      rw [ex_pp] at this
      exact this
    have h4 : SAddrT [.int .u8 6, .agg [.int .u64 2306139568115548160, .int .u64 1]] = some ⟨.tup [.str ⟨#[50, 48, 48, 49, 58, 100, 98, 56, 58, 58, 49]⟩, .int .i64 0], []⟩ := by
      have := addrT_at (f := 6) (h := 2306139568115548160) (l := 1) (by decide) (by decide)
      rw [if_pos (by kernel_rfl)] at this
      exact this.trans (by
        have e : addrT (6 : Int).toNat 2306139568115548160 1 = [50, 48, 48, 49, 58, 100, 98, 56, 58, 58, 49] := by kernel_rfl
        rw [e]; rfl)
    have h5 : SCovers [.agg [.int .u8 4, .int .u64 0, .int .u64 167772160, .int .i64 8], .agg [.int .u8 4, .int .u64 0, .int .u64 167903232, .int .i64 16]] = some ⟨.bool true, []⟩ := by kernel_rfl
    have h6 : SCovers [.agg [.int .u8 4, .int .u64 0, .int .u64 167903232, .int .i64 16], .agg [.int .u8 4, .int .u64 0, .int .u64 167772160, .int .i64 8]] = some ⟨.bool false, []⟩ := by kernel_rfl
    have b1 : ByteArray.toList ⟨#[49, 48, 46, 48, 46, 48, 46, 48, 47, 56]⟩ = [49, 48, 46, 48, 46, 48, 46, 48, 47, 56] := bs_toList [49, 48, 46, 48, 46, 48, 46, 48, 47, 56]
    have b2 : ByteArray.toList ⟨#[50, 48, 48, 49, 58, 100, 98, 56, 58, 58, 49]⟩ = [50, 48, 48, 49, 58, 100, 98, 56, 58, 58, 49] := bs_toList [50, 48, 48, 49, 58, 100, 98, 56, 58, 58, 49]
    refine Runs.of_body Tryd.func16 (by decide) rfl (by simp [Tryd.f16]) ?_
    refine W.seqE hT mixed M_f16 (by kernel_rfl) ?_
    simp [Tryd.f16]
    refine W.seqE hT mixed M_f16 (by kernel_rfl) ?_
    simp [Tryd.f16, h1]
    refine W.seqE hT mixed M_f16 (by kernel_rfl) ?_
    simp [Tryd.f16, h2]
    refine W.seqE hT mixed M_f16 (by kernel_rfl) ?_
    simp [Tryd.f16, h3]
    refine W.seqE hT mixed M_f16 (by kernel_rfl) ?_
    simp [Tryd.f16, h4]
    refine W.of_WE hT mixed M_f16 _ (by kernel_rfl) ?_
    simp [Tryd.f16, h5, h6, b1, b2]
  · cases hh

end Go.Proofs.YtbnjijffkjcmcaaDoor.AL
namespace Go.Proofs.YtbnjijffkjcmcaaDoor.AL
open Go
attribute [local simp] qf cv qbin ibin sbin qun retPost rvOk ctV ctPost marksOk retV resAll resOf V.lt ltL V.ren renL V.exp V.exp1 cleanL V.clean closedL V.closed V.cells V.one V.tree
  loadV cellsAt isNC nilQ isSlD isIfD slNew ownRows ownCells V.isOwn slStore srcO qlook mlook mget mstr zval qnone qmake mput lmap isAggD placesOf fillV putCells lstore bound seqParts V.sh shL Blk.sh newV V.ok peqs peq srcRows qbytes byteSl appOk mmV mmR hidE V.fz fzL Blk.fz fzOk and_assoc
attribute [-simp] Int.not_le Int.not_lt Nat.not_le Nat.not_lt
/-! Strings of spans. -/
theorem kw_w {f h l : Int} (hc : cAddr f h l = true) : kw f = widN f := by rcases cAddr_46 hc with rfl | rfl <;> rfl
noncomputable def SST : List V → Option Res
  | [.int .u8 f, .agg [.int .u64 h, .int .u64 l, .int .u64 h', .int .u64 l']] => ifC (inA h l ∧ inA h' l') (some ⟨if chkS f h l h' l' = 0 then .tup [.str (bs (spT f.toNat h.toNat l.toNat h'.toNat l'.toNat)), .int .i64 0] else .tup [.str (bs []), .int .i64 (chkS f h l h' l')], []⟩)
  | _ => none
theorem st_at {f : Int} {h l h' l' : Nat} (r1 : h < 18446744073709551616) (r2 : l < 18446744073709551616) (r3 : h' < 18446744073709551616) (r4 : l' < 18446744073709551616) :
    SST [.int .u8 f, .agg [.int .u64 (h : Int), .int .u64 (l : Int), .int .u64 (h' : Int), .int .u64 (l' : Int)]] = some ⟨if chkS f h l h' l' = 0 then .tup [.str (bs (spT f.toNat h l h' l')), .int .i64 0] else .tup [.str (bs []), .int .i64 (chkS f h l h' l')], []⟩ := by
  simp only [SST]
  rw [ifC_pos ⟨⟨by omega, by omega, by omega, by omega⟩, by omega, by omega, by omega, by omega⟩]
  rfl
theorem spT_len (f h l h' l' : Nat) (hn : fstN f h l h' l' ≤ 128) : (spT f h l h' l').length ≤ 85 := by
  have h1 := addrT_len f h l
  have h2 := addrT_len f h' l'
  unfold spT
  split
  · have hdl : (dgs 10 (fstN f h l h' l')).length ≤ 3 := dgs_len (by omega) 2 _ (by omega) (by omega)
    unfold ppT; simp; omega
  · simp; omega
def M_f41 : Md := fun i => if i = 5 then some #[0, 1, 0, 4, 15] else some #[]
@[simp] theorem M_f41_eq {i : Nat} : M_f41 i = (if i = 5 then some #[0, 1, 0, 4, 15] else some #[]) := rfl
theorem runs_span_Text : ∀ args r, SST args = some r → Runs Tryd.prog 41 args r := by
  intro args r hh
  unfold SST ifC at hh
  split at hh
  · rename_i f h0 l0 h0' l0'
    split at hh
    · rename_i hin
      obtain ⟨hA, hB⟩ := hin
      obtain ⟨a1, a2, a3, a4⟩ := hA
      obtain ⟨b1, b2, b3, b4⟩ := hB
      obtain ⟨h, rfl⟩ := Int.eq_ofNat_of_zero_le a1
      obtain ⟨l, rfl⟩ := Int.eq_ofNat_of_zero_le a3
      obtain ⟨h', rfl⟩ := Int.eq_ofNat_of_zero_le b1
      obtain ⟨l', rfl⟩ := Int.eq_ofNat_of_zero_le b3
      cases hh
      simp only [Int.toNat_natCast]
      have hA : inA (h : Int) (l : Int) := ⟨a1, a2, a3, a4⟩
      have hB : inA (h' : Int) (l' : Int) := ⟨b1, b2, b3, b4⟩
      have hT : (((((T0.add 36 SChkS).add 72 SFirst).add 69 SLast).add 21 STx).add 17 SAddrT).ok Tryd.prog := Tab.add_ok (Tab.add_ok (Tab.add_ok (Tab.add_ok (Tab.add_ok (T0_ok _) runs_span_Check) runs_span_walk_first) runs_span_last) runs_number_Text) runs_AddrText
      have hs1 : SChkS [.int .u8 f, .agg [.int .u64 (h : Int), .int .u64 (l : Int), .int .u64 (h' : Int), .int .u64 (l' : Int)]] = some ⟨.int .i64 (chkS f h l h' l'), []⟩ := rfl
      refine Runs.of_body Tryd.func41 (by decide) rfl (by simp [Tryd.f41]) ?_
      refine W.seqE hT mixed M_f41 (by kernel_rfl) ?_
      simp [Tryd.f41]
      by_cases hc : chkS f h l h' l' = 0
      · rw [if_pos hc]
        rw [hc] at hs1
        obtain ⟨c1, c2, c3⟩ := chkS_zero hc
        obtain ⟨k1, k2⟩ := fst_chk hA hc
        have hw := widN_le f
        have hkw := kw_w c1
        have hs2 : SFirst [.agg [.int .u8 f, .int .u64 (h : Int), .int .u64 (l : Int), .int .u64 (h' : Int), .int .u64 (l' : Int)]] = some ⟨.agg [.int .u8 f, .int .u64 h, .int .u64 l, .int .i64 (fstN f h l h' l')], []⟩ := by
          simp only [SFirst]; rw [if_pos ⟨hA, hB, hc⟩]
        have hs3 : SLast [.agg [.int .u8 f, .int .u64 (h : Int), .int .u64 (l : Int), .int .i64 (fstN f h l h' l')]] = some ⟨.agg [.int .u64 (lastA h l (widN f - fstN f h l h' l')).1, .int .u64 (lastA h l (widN f - fstN f h l h' l')).2], []⟩ := by
          simp only [SLast]; rw [if_pos ⟨hA, by omega, by rw [hkw]; omega⟩, hkw, Int.toNat_natCast]
        obtain ⟨v1, g1⟩ := cAddr_or c1 (by omega) (by omega)
        have hf : ((f.toNat : Nat) : Int) = f := by omega
        have hs4 := tx_at (f := f) (n := (fstN f h l h' l' : Int)) (h := h) (l := l) (by omega) (by omega)
        rw [if_pos k1, Int.toNat_natCast] at hs4
        have hs5 := addrT_at (f := f) (h := h) (l := l) (by omega) (by omega)
        rw [if_pos c1] at hs5
        have hs6 := addrT_at (f := f) (h := h') (l := l') (by omega) (by omega)
        rw [if_pos c2] at hs6
        have hsp : spT f.toNat h l h' l' = if lastA h l (widN f - fstN f h l h' l') = ((h' : Int), (l' : Int)) then ppT f.toNat h l (fstN f h l h' l') else addrT f.toNat h l ++ 45 :: addrT f.toNat h' l' := by
          unfold spT; rw [hf]
        have l5 := addrT_len f.toNat h l
        have l6 := addrT_len f.toNat h' l'
        rw [hsp]
        clear hsp k1
        generalize fstN f h l h' l' = n at *
        generalize ppT f.toNat h l n = X at *
        generalize addrT f.toNat h l = Y at *
        generalize addrT f.toNat h' l' = Z at *
        have e1 : bs Y ++ (⟨#[45]⟩ : ByteArray) = bs (Y ++ [45]) := bs_append _ [45]
        have e2 : bs (Y ++ [45]) ++ bs Z = bs (Y ++ 45 :: Z) := by rw [bs_append]; simp
        have z1 : (bs Y).size ≤ 42 := by rw [bs_size]; omega
        have z2 : (bs (Y ++ [45])).size ≤ 43 := by rw [bs_size]; simp; omega
        have z3 : (bs Z).size ≤ 42 := by rw [bs_size]; omega
        have z4 : (⟨#[45]⟩ : ByteArray).size = 1 := rfl
        refine W.cut True [(0, .int .u8 f), (3, .ptr 0 0)] [.box 65 [.int .u64 h, .int .u64 l, .int .u64 h', .int .u64 l']] 49 ?_ ?_
        · refine W.of_WE hT mixed M_f41 _ (by kernel_rfl) ?_
          simp [Tryd.f41, hs1]
        intro _
        by_cases hL : lastA h l (widN f - n) = ((h' : Int), (l' : Int))
        · rw [if_pos hL]
          rw [hL] at hs3
          refine W.cut False [] [] 49 ?_ (fun h => h.elim)
          refine W.of_WE hT mixed M_f41 _ (by kernel_rfl) ?_
          simp [Tryd.f41, hs2, hs3, hs4]
        · rw [if_neg hL]
          have hL' : ¬ ((lastA h l (widN f - n)).1 = (h' : Int) ∧ (lastA h l (widN f - n)).2 = (l' : Int)) := fun q => hL (Prod.ext q.1 q.2)
          refine W.cut True [(0, .int .u8 f), (3, .ptr 0 0)] [.box 65 [.int .u64 h, .int .u64 l, .int .u64 h', .int .u64 l']] 49 ?_ ?_
          · generalize (lastA h l (widN f - n)).1 = p1 at *
            generalize (lastA h l (widN f - n)).2 = p2 at *
            refine W.of_WE hT mixed M_f41 _ (by kernel_rfl) ?_
            simp [Tryd.f41, hs2, hs3, hL']
          intro _
          refine W.seqE hT mixed M_f41 (by kernel_rfl) ?_
          simp [Tryd.f41, hs5]
          refine W.seqE hT mixed M_f41 (by kernel_rfl) ?_
          simp [hs6]
          refine W.of_WE hT mixed M_f41 _ (by kernel_rfl) ?_
          simp [Tryd.f41, e1, e2, z4]
          omega
      · rw [if_neg hc]
        generalize chkS f h l h' l' = ck at *
        refine W.cut False [] [] 49 ?_ (fun h => h.elim)
        refine W.of_WE hT mixed M_f41 _ (by kernel_rfl) ?_
        simp [Tryd.f41, hs1, hc]
        rfl
    · cases hh
  · cases hh

end Go.Proofs.YtbnjijffkjcmcaaDoor.AL
namespace Go.Proofs.YtbnjijffkjcmcaaDoor.AL
open Go
attribute [local simp] qf cv qbin ibin sbin qun retPost rvOk ctV ctPost marksOk retV resAll resOf V.lt ltL V.ren renL V.exp V.exp1 cleanL V.clean closedL V.closed V.cells V.one V.tree
  loadV cellsAt isNC nilQ isSlD isIfD slNew ownRows ownCells V.isOwn slStore srcO qlook mlook mget mstr zval qnone qmake mput lmap isAggD placesOf fillV putCells lstore bound seqParts V.sh shL Blk.sh newV V.ok peqs peq srcRows qbytes byteSl appOk mmV mmR hidE V.fz fzL Blk.fz fzOk and_assoc
attribute [-simp] Int.not_le Int.not_lt Nat.not_le Nat.not_lt
/-! A span out of a string. -/
def spV : Option (Nat × Nat × Nat × Nat × Nat) → V
  | some (f, h, l, h', l') => .tup [.int .u8 (f : Int), .agg [.int .u64 (h : Int), .int .u64 (l : Int), .int .u64 (h' : Int), .int .u64 (l' : Int)], .int .i64 0]
  | none => .tup [.int .u8 0, .agg [.int .u64 0, .int .u64 0, .int .u64 0, .int .u64 0], .int .i64 12]
noncomputable def SSP : List V → Option Res
  | [.str s] => ifC (s.size < 100000) (some ⟨spV (sp s.data.toList), []⟩)
  | _ => none
theorem sp_at {l : List UInt8} (h : l.length < 100000) : SSP [.str (bs l)] = some ⟨spV (sp l), []⟩ := by
  simp only [SSP, bs_size, bs_data]
  rw [ifC_pos h]
def M_f42 : Md := fun i => if i = 4 then some #[0, 1, 0, 3, 15, 31] else if i = 14 then some #[0, 0, 1, 7, 15] else some #[]
@[simp] theorem M_f42_eq {i : Nat} : M_f42 i = (if i = 4 then some #[0, 1, 0, 3, 15, 31] else if i = 14 then some #[0, 0, 1, 7, 15] else some #[]) := rfl
theorem runs_span_Parse : ∀ args r, SSP args = some r → Runs Tryd.prog 42 args r := by
  intro args r hh
  unfold SSP ifC at hh
  split at hh
  · rename_i s0
    obtain ⟨l, rfl⟩ := bs_ex s0
    rw [bs_size, bs_data] at hh
    split at hh
    · rename_i hlen
      cases hh
      have hT : (((((T0.add 23 SPf).add 38 SOf).add 61 SCutS).add 19 SAP).add 41 SST).ok Tryd.prog := Tab.add_ok (Tab.add_ok (Tab.add_ok (Tab.add_ok (Tab.add_ok (T0_ok _) runs_number_Parse) runs_span_Of) runs_CutS) runs_AddrParse) runs_span_Text
      have hp := pf_at hlen
      refine Runs.of_body Tryd.func42 (by decide) rfl (by simp [Tryd.f42]) ?_
      refine W.seqE hT mixed M_f42 (by kernel_rfl) ?_
      simp [Tryd.f42]
      cases hpp : pp l with
      | some v =>
        obtain ⟨f, h, l2, n⟩ := v
        obtain ⟨hv, hc, ht⟩ := pp_iff.1 hpp
        obtain ⟨hin, hca⟩ := vA_inA hv
        obtain ⟨k1, k2, k3⟩ := fst_last hin hc
        obtain ⟨a0, a1, b0, b1⟩ := k3
        have e : sp l = some (f, h, l2, (lastA h l2 (widN f - n)).1.toNat, (lastA h l2 (widN f - n)).2.toNat) := by unfold sp; rw [hpp]
        rw [e]
        rw [hpp] at hp
        have ho : SOf [.agg [.int .u8 (f : Int), .int .u64 (h : Int), .int .u64 (l2 : Int), .int .i64 (n : Int)]] = some ⟨.tup [.agg [.int .u64 h, .int .u64 l2, .int .u64 (lastA h l2 (widN f - n)).1, .int .u64 (lastA h l2 (widN f - n)).2], .int .i64 0], []⟩ := by
          simp only [SOf]; rw [if_pos hin, if_pos hc, Int.toNat_natCast]
        have y1 : (((lastA h l2 (widN f - n)).1.toNat : Nat) : Int) = (lastA h l2 (widN f - n)).1 := by omega
        have y2 : (((lastA h l2 (widN f - n)).2.toNat : Nat) : Int) = (lastA h l2 (widN f - n)).2 := by omega
        simp only [spV, y1, y2]
        clear k1 k2 e
        generalize (lastA h l2 (widN f - n)).1 = p1 at *
        generalize (lastA h l2 (widN f - n)).2 = p2 at *
        refine W.cut False [] [] 81 ?_ (fun h => h.elim)
        refine W.seqE hT mixed M_f42 (by kernel_rfl) ?_
        simp [Tryd.f42, hp, ppV]
        refine W.of_WE hT mixed M_f42 _ (by kernel_rfl) ?_
        simp [Tryd.f42, ho]
      | none =>
        have e : sp l = spX l (pa (Lib.cut l [45]).1) (pa (Lib.cut l [45]).2.1) := by unfold sp; rw [hpp]
        rw [e]
        rw [hpp] at hp
        have hcut := cutS_at (l := l) (sep := [45]) (by simp) (by omega)
        rw [show bs [45] = (⟨#[45]⟩ : ByteArray) from rfl] at hcut
        obtain ⟨cl1, cl2⟩ := cut_len 45 l
        have ha := ap_at (l := (Lib.cut l [45]).1) (by omega)
        have hb := ap_at (l := (Lib.cut l [45]).2.1) (by omega)
        have bd : ∀ m f h l, pa m = some (f, h, l) → h < 18446744073709551616 ∧ l < 18446744073709551616 := by
          intro m f h l e
          rcases (pa_iff.1 e).1 with ⟨rfl, q1, q2⟩ | ⟨rfl, rfl, q2⟩
          · exact ⟨q1, q2⟩
          · exact ⟨by omega, by omega⟩
        have bdA := bd (Lib.cut l [45]).1
        have bdB := bd (Lib.cut l [45]).2.1
        clear bd e
        generalize pa (Lib.cut l [45]).1 = oa at *
        generalize pa (Lib.cut l [45]).2.1 = ob at *
        refine W.cut True [(0, .str (bs l)), (3, .ptr 0 0)] [.box 65 [.int .u64 0, .int .u64 0, .int .u64 0, .int .u64 0]] 81 ?_ ?_
        · refine W.seqE hT mixed M_f42 (by kernel_rfl) ?_
          simp [Tryd.f42, hp, ppV]
          refine W.of_WE hT mixed M_f42 _ (by kernel_rfl) ?_
          simp
        intro _
        refine W.seqE hT mixed M_f42 (by kernel_rfl) ?_
        simp [Tryd.f42, hcut]
        have key : ∀ (o : Option (Nat × Nat × Nat)), ∃ (x b c e : Int), paV o = .tup [.int .u8 x, .agg [.int .u64 b, .int .u64 c], .int .i64 e] ∧ ((o = none ∧ e = 12) ∨ (∃ f h l : Nat, o = some (f, h, l) ∧ e = 0 ∧ x = f ∧ b = h ∧ c = l)) := by
          intro o
          cases o with
          | none => exact ⟨_, _, _, _, rfl, .inl ⟨rfl, rfl⟩⟩
          | some v => obtain ⟨f, h, l⟩ := v; exact ⟨_, _, _, _, rfl, .inr ⟨f, h, l, rfl, rfl, rfl, rfl, rfl⟩⟩
        obtain ⟨x1, b1, c1, e1, q1, o1⟩ := key oa
        obtain ⟨x2, b2, c2, e2, q2, o2⟩ := key ob
        rw [q1] at ha
        rw [q2] at hb
        refine W.seqE hT mixed M_f42 (by kernel_rfl) ?_
        simp [ha]
        refine W.seqE hT mixed M_f42 (by kernel_rfl) ?_
        simp [hb]
        refine W.cut True [(0, .str (bs l)), (3, .ptr 0 0), (4, .int .i64 e1), (10, .int .u8 x1), (12, .int .u8 x2), (14, .int .i64 e2)] [.box 65 [.int .u64 b1, .int .u64 c1, .int .u64 b2, .int .u64 c2]] 81 ?_ ?_
        · refine W.of_WE hT mixed M_f42 _ (by kernel_rfl) ?_
          simp
        intro _
        rcases o1 with ⟨rfl, rfl⟩ | ⟨f, h, l2, rfl, rfl, rfl, rfl, rfl⟩
        · have e0 : spX l none ob = none := by unfold spX; rfl
          rw [e0]
          refine W.cut False [] [] 81 ?_ (fun h => h.elim)
          refine W.of_WE hT mixed M_f42 _ (by kernel_rfl) ?_
          simp [Tryd.f42, spV]
        · rcases o2 with ⟨rfl, rfl⟩ | ⟨g, h2, l3, rfl, rfl, rfl, rfl, rfl⟩
          · have e0 : spX l (some (f, h, l2)) none = none := by unfold spX; rfl
            rw [e0]
            refine W.cut False [] [] 81 ?_ (fun h => h.elim)
            refine W.of_WE hT mixed M_f42 _ (by kernel_rfl) ?_
            simp [Tryd.f42, spV]
          · have e0 : spX l (some (f, h, l2)) (some (g, h2, l3)) = if f = g ∧ chkS f h l2 h2 l3 = 0 ∧ spT f h l2 h2 l3 = l then some (f, h, l2, h2, l3) else none := rfl
            rw [e0]
            by_cases hfg : f = g
            · subst hfg
              obtain ⟨r1, r2⟩ := bdA _ _ _ rfl
              obtain ⟨r3, r4⟩ := bdB _ _ _ rfl
              have hst := st_at (f := (f : Int)) r1 r2 r3 r4
              rw [Int.toNat_natCast] at hst
              generalize chkS f h l2 h2 l3 = ck at *
              generalize spT f h l2 h2 l3 = X at *
              refine W.cut True [(0, .str (bs l)), (3, .ptr 0 0), (10, .int .u8 f)] [.box 65 [.int .u64 h, .int .u64 l2, .int .u64 h2, .int .u64 l3]] 81 ?_ ?_
              · refine W.of_WE hT mixed M_f42 _ (by kernel_rfl) ?_
                simp [Tryd.f42]
              intro _
              by_cases hck : ck = 0
              · rw [if_pos hck] at hst
                by_cases hX : X = l
                · refine W.of_WE hT mixed M_f42 _ (by kernel_rfl) ?_
                  simp [Tryd.f42, hst, bs_toList, hck, hX, spV]
                · refine W.cut False [] [] 81 ?_ (fun h => h.elim)
                  refine W.of_WE hT mixed M_f42 _ (by kernel_rfl) ?_
                  simp [Tryd.f42, hst, bs_toList, hck, hX, spV]
              · rw [if_neg hck] at hst
                refine W.cut False [] [] 81 ?_ (fun h => h.elim)
                refine W.of_WE hT mixed M_f42 _ (by kernel_rfl) ?_
                simp [Tryd.f42, hst, hck, spV]
            · refine W.cut False [] [] 81 ?_ (fun h => h.elim)
              refine W.of_WE hT mixed M_f42 _ (by kernel_rfl) ?_
              simp [Tryd.f42, hfg, spV]
              omega
    · cases hh
  · cases hh

end Go.Proofs.YtbnjijffkjcmcaaDoor.AL
namespace Go.Proofs.YtbnjijffkjcmcaaDoor.AL
open Go
attribute [local simp] qf cv qbin ibin sbin qun retPost rvOk ctV ctPost marksOk retV resAll resOf V.lt ltL V.ren renL V.exp V.exp1 cleanL V.clean closedL V.closed V.cells V.one V.tree
  loadV cellsAt isNC nilQ isSlD isIfD slNew ownRows ownCells V.isOwn slStore srcO qlook mlook mget mstr zval qnone qmake mput lmap isAggD placesOf fillV putCells lstore bound seqParts V.sh shL Blk.sh newV V.ok peqs peq srcRows qbytes byteSl appOk mmV mmR hidE V.fz fzL Blk.fz fzOk and_assoc
attribute [-simp] Int.not_le Int.not_lt Nat.not_le Nat.not_lt
def SLowA : List V → Option Res
  | [.int .u64 x] => some ⟨.agg [.int .u64 0, .int .u64 x], []⟩
  | _ => none
theorem runs_law02_addr : ∀ args r, SLowA args = some r → Runs Tryd.prog 44 args r := by
  intro args r hh
  unfold SLowA at hh
  split at hh
  · cases hh
    refine Runs.of_body Tryd.func44 (by decide) rfl (by simp [Tryd.f44]) ?_
    refine W.of_WE (T0_ok _) mixed M0 _ (by kernel_rfl) ?_
    simp [Tryd.f44]
  · cases hh
def exRows : List (List V) := [[.int .u8 4, .int .u64 0, .int .u64 167772161, .int .i64 32], [.int .u8 4, .int .u64 0, .int .u64 167772162, .int .i64 31], [.int .u8 4, .int .u64 0, .int .u64 167772164, .int .i64 31], [.int .u8 4, .int .u64 0, .int .u64 167772166, .int .i64 32]]
theorem rows_ex : wRows 4 (numA (0, 167772161)) (numA (0, 167772166)) (widN 4) 0 = exRows := by kernel_rfl
def SAlive2 : List V → Option Res
  | [] => some ⟨.bool true, []⟩
  | _ => none
def M_f34 : Md := fun i => if i = 9 then some #[0, 0, 3, 7, 0, 0, 48, 112, 255] else some #[]
@[simp] theorem M_f34_eq {i : Nat} : M_f34 i = (if i = 9 then some #[0, 0, 3, 7, 0, 0, 48, 112, 255] else some #[]) := rfl
theorem runs_alive2 : ∀ args r, SAlive2 args = some r → Runs Tryd.prog 34 args r := by
  intro args r hh
  unfold SAlive2 at hh
  split at hh
  · cases hh
    have hcS : chkS 4 0 167772161 0 167772166 = 0 := by kernel_rfl
    have hp : SPre [.int .u8 4, .agg [.int .u64 0, .int .u64 167772161, .int .u64 0, .int .u64 167772166]] = some ⟨.tup [.own 0, .int .i64 0], [.sl 4 26 exRows]⟩ := by
      simp only [SPre]
      rw [if_pos ⟨by decide, by decide⟩, if_pos hcS, rows_ex]
    have hex : ByteArray.toList ⟨#[49, 48, 46, 48, 46, 48, 46, 48, 47, 50, 52]⟩ = [49, 48, 46, 48, 46, 48, 46, 48, 47, 50, 52] := bs_toList [49, 48, 46, 48, 46, 48, 46, 48, 47, 50, 52]
    have hst : SST [.int .u8 4, .agg [.int .u64 0, .int .u64 167772160, .int .u64 0, .int .u64 167772415]] = some ⟨.tup [.str ⟨#[49, 48, 46, 48, 46, 48, 46, 48, 47, 50, 52]⟩, .int .i64 0], []⟩ := by
      have := st_at (f := 4) (h := 0) (l := 167772160) (h' := 0) (l' := 167772415) (by decide) (by decide) (by decide) (by decide)
      rw [if_pos (by kernel_rfl)] at this
      exact this.trans (by
        have e : spT (4 : Int).toNat 0 167772160 0 167772415 = [49, 48, 46, 48, 46, 48, 46, 48, 47, 50, 52] := by kernel_rfl
        rw [e]; rfl)
    have hT : (((T0.add 44 SLowA).add 35 SPre).add 41 SST).ok Tryd.prog := Tab.add_ok (Tab.add_ok (Tab.add_ok (T0_ok _) runs_law02_addr) runs_span_Prefixes) runs_span_Text
    refine Runs.of_body Tryd.func34 (by decide) rfl (by simp [Tryd.f34]) ?_
    refine W.seqE hT mixed M_f34 (by kernel_rfl) ?_
    simp [Tryd.f34]
    refine W.seqE hT mixed M_f34 (by kernel_rfl) ?_
    simp [Tryd.f34, SLowA, hp]
    refine W.seqE hT mixed M_f34 (by kernel_rfl) ?_
    simp [Tryd.f34, SLowA, hst]
    refine W.seqE hT mixed M_f34 (by kernel_rfl) ?_
    simp [Tryd.f34, hex, exRows]
    refine W.seqE hT mixed M_f34 (by kernel_rfl) ?_
    simp [Tryd.f34, SLowA]
    refine W.cut True [] [] 60 ?_ ?_
    · refine W.seqE hT mixed M_f34 (by kernel_rfl) ?_
      simp [Tryd.f34]
      refine W.block (W.for (fun k => True) (fun k => [(1, .own 0), (5, .own 1), (6, .int .i64 k)]) (fun _ => [.sl 4 26 exRows, .sl 4 26 exRows]) 60 4 trivial ?_ ?_)
      · simp [exRows]
      · intro k hk _
        refine W.of_WE hT mixed M_f34 _ (by kernel_rfl) ?_
        match k, hk with
        | 0, _ => simp [exRows]; rfl
        | 1, _ => simp [exRows]; rfl
        | 2, _ => simp [exRows]; rfl
        | 3, _ => simp [exRows]; rfl
        | 4, _ => simp [exRows]
    · intro _
      refine W.of_WE hT mixed M_f34 _ (by kernel_rfl) ?_
      simp [Tryd.f34]
  · cases hh

end Go.Proofs.YtbnjijffkjcmcaaDoor.AL
namespace Go.Proofs.YtbnjijffkjcmcaaDoor.AL
open Go
attribute [local simp] qf cv qbin ibin sbin qun retPost rvOk ctV ctPost marksOk retV resAll resOf V.lt ltL V.ren renL V.exp V.exp1 cleanL V.clean closedL V.closed V.cells V.one V.tree
  loadV cellsAt isNC nilQ isSlD isIfD slNew ownRows ownCells V.isOwn slStore srcO qlook mlook mget mstr zval qnone qmake mput lmap isAggD placesOf fillV putCells lstore bound seqParts V.sh shL Blk.sh newV V.ok peqs peq srcRows qbytes byteSl appOk mmV mmR hidE V.fz fzL Blk.fz fzOk and_assoc
attribute [-simp] Int.not_le Int.not_lt Nat.not_le Nat.not_lt
def M_f12 : Md := fun i => if i = 16 then some #[0, 1, 3, 7, 15, 31, 63, 127, 255, 511, 1023, 2047, 4095, 8191, 2047, 32767, 65535, 131071, 262143, 524287, 1048575, 2097151, 4194303] else some #[]
@[simp] theorem M_f12_eq {i : Nat} : M_f12 i = (if i = 16 then some #[0, 1, 3, 7, 15, 31, 63, 127, 255, 511, 1023, 2047, 4095, 8191, 2047, 32767, 65535, 131071, 262143, 524287, 1048575, 2097151, 4194303] else some #[]) := rfl
theorem sinv1 {f : Int} {h l h' l' : Nat} (r1 : h < 18446744073709551616) (r2 : l < 18446744073709551616) (r3 : h' < 18446744073709551616) (r4 : l' < 18446744073709551616) :
    ∃ T e x a b c d g, SST [.int .u8 f, .agg [.int .u64 (h : Int), .int .u64 (l : Int), .int .u64 (h' : Int), .int .u64 (l' : Int)]] = some ⟨.tup [.str (bs T), .int .i64 e], []⟩ ∧
      SSP [.str (bs T)] = some ⟨.tup [.int .u8 x, .agg [.int .u64 a, .int .u64 b, .int .u64 c, .int .u64 d], .int .i64 g], []⟩ ∧ chkS f h l h' l' = e ∧ (e = 0 → g = 0 ∧ x = f ∧ a = h ∧ b = l ∧ c = h' ∧ d = l') := by
  have hs := st_at (f := f) r1 r2 r3 r4
  by_cases hc : chkS f h l h' l' = 0
  · rw [if_pos hc] at hs
    obtain ⟨c1, c2, c3⟩ := chkS_zero hc
    obtain ⟨v1, g1⟩ := cAddr_or c1 r1 r2
    have hf : ((f.toNat : Nat) : Int) = f := by omega
    have hin : inA (h : Int) (l : Int) := ⟨by omega, by omega, by omega, by omega⟩
    have k2 := (fst_chk hin hc).2
    have hw := widN_le f
    have hlen := spT_len f.toNat h l h' l' (by rw [hf]; omega)
    have hp := sp_at (l := spT f.toNat h l h' l') (by omega)
    rw [sp_iff.2 ⟨⟨r1, r2, r3, r4⟩, by rw [hf]; exact hc, rfl⟩] at hp
    exact ⟨_, _, _, _, _, _, _, _, hs, hp, hc, fun _ => ⟨rfl, hf, rfl, rfl, rfl, rfl⟩⟩
  · rw [if_neg hc] at hs
    have hp := sp_at (l := []) (by simp)
    cases hq : sp [] with
    | none => rw [hq] at hp; exact ⟨_, _, _, _, _, _, _, _, hs, hp, rfl, fun h => absurd h hc⟩
    | some v => obtain ⟨x, y, z, u, w⟩ := v; rw [hq] at hp; exact ⟨_, _, _, _, _, _, _, _, hs, hp, rfl, fun h => absurd h hc⟩
theorem sinv2 {s : List UInt8} (hl : s.length < 100000) : ∃ x a b c d e T g, SSP [.str (bs s)] = some ⟨.tup [.int .u8 x, .agg [.int .u64 a, .int .u64 b, .int .u64 c, .int .u64 d], .int .i64 e], []⟩ ∧
    SST [.int .u8 x, .agg [.int .u64 a, .int .u64 b, .int .u64 c, .int .u64 d]] = some ⟨.tup [.str (bs T), .int .i64 g], []⟩ ∧ (e = 0 → g = 0 ∧ T = s) := by
  have hp := sp_at hl
  cases hq : sp s with
  | none =>
    rw [hq] at hp
    have hs := st_at (f := 0) (h := 0) (l := 0) (h' := 0) (l' := 0) (by omega) (by omega) (by omega) (by omega)
    exact ⟨_, _, _, _, _, _, _, _, hp, hs, fun h => by omega⟩
  | some v =>
    obtain ⟨f, h, l, h', l'⟩ := v
    rw [hq] at hp
    obtain ⟨⟨r1, r2, r3, r4⟩, hc, ht⟩ := sp_iff.1 hq
    have hs := st_at (f := (f : Int)) r1 r2 r3 r4
    rw [if_pos hc, Int.toNat_natCast, ht] at hs
    exact ⟨_, _, _, _, _, _, _, _, hp, hs, fun _ => ⟨rfl, rfl⟩⟩
theorem pre_one {f h l n : Int} (hin : inA h l) (hc : chkP f h l n = 0) : SPre [.int .u8 f, .agg [.int .u64 h, .int .u64 l, .int .u64 (lastA h l (widN f - n.toNat)).1, .int .u64 (lastA h l (widN f - n.toNat)).2]] = some ⟨.tup [.own 0, .int .i64 0], [.sl 4 26 [[.int .u8 f, .int .u64 h, .int .u64 l, .int .i64 n]]]⟩ := by
  obtain ⟨j, rfl, hj, hca, hcut⟩ := chk_zero hc
  rw [Int.toNat_natCast]
  obtain ⟨k1, k2, k3⟩ := fst_last hin hc
  simp only [SPre]
  rw [if_pos ⟨hin, k3⟩, if_pos k2]
  have hN := last_num hin (widN f - j)
  have hcN := cutA_num hin.2.2.1 hin.2.2.2 (h := h) (widN f - j)
  rw [hcut] at hcN
  rw [← hcN] at hN
  have hb := numA_lt hin hca
  have hw := wthN_step (a := numA (h, l)) (b := numA (h, l) + 2 ^ (widN f - j) - 1) (j := widN f - j) ⟨_, hcN⟩ (by omega) (k := widN f) (N := 0) ⟨0, by simp⟩ hb.1 (by rw [Int.zero_add]; exact hb.2) (by omega) (.inr (fun q => by
    have := ipow_succ (widN f - j)
    have := ipow_pos (widN f - j)
    omega))
  rw [wthN_empty (a := numA (h, l) + 2 ^ (widN f - j)) (b := numA (h, l) + 2 ^ (widN f - j) - 1) (by omega)] at hw
  have e : numA ((lastA h l (widN f - j)).1, (lastA h l (widN f - j)).2) = numA (h, l) + 2 ^ (widN f - j) - 1 := by
    rw [show ((lastA h l (widN f - j)).1, (lastA h l (widN f - j)).2) = lastA h l (widN f - j) from rfl, hN]; omega
  rw [e]
  unfold wRows
  rw [hw]
  have t := toA_numA hin.2.2.1 hin.2.2.2 (h := h)
  simp only [List.map_cons, List.map_nil, rowW, t, PF.row]
  rw [show (widN f : Int) - ((widN f - j : Nat) : Int) = (j : Int) by omega]
theorem spanInverse_runs : ∀ As, ArgsV Tryd.prog Tryd.f12.params.toList [[.int .u8], [.int .u64, .int .u64, .int .u64, .int .u64], [.int .u8, .int .u64, .int .u64, .int .i64], [.str]] As → Runs Tryd.prog 12 As ⟨.bool true, []⟩ := by
  intro As hA
  simp [Tryd.f12, ArgsV, LSh, VSh, argV] at hA
  obtain ⟨_, _, rfl, ⟨_, rfl, f, rfl, hf⟩, _, _, rfl, ⟨_, _, rfl, ⟨h, rfl, hh⟩, _, _, rfl, ⟨l, rfl, hl⟩, _, _, rfl, ⟨h', rfl, hh'⟩, _, rfl, l', rfl, hl'⟩, _, _, rfl, ⟨_, _, rfl, ⟨f2, rfl, hf2⟩, _, _, rfl, ⟨h2, rfl, hh2⟩, _, _, rfl, ⟨l2, rfl, hl2⟩, _, rfl, n2, rfl, hn2⟩, _, rfl, _, rfl, s0, rfl, hs0⟩ := hA
  simp only [List.head?_cons, Option.getD_some]
  have hT : (((((((T0.add 41 SST).add 42 SSP).add 36 SChkS).add 38 SOf).add 35 SPre).add 43 SCheck).add 34 SAlive2).ok Tryd.prog := Tab.add_ok (Tab.add_ok (Tab.add_ok (Tab.add_ok (Tab.add_ok (Tab.add_ok (Tab.add_ok (T0_ok _) runs_span_Text) runs_span_Parse) runs_span_Check) runs_span_Of) runs_span_Prefixes) runs_ref01_Check) runs_alive2
  obtain ⟨s, rfl⟩ := bs_ex s0
  obtain ⟨r1, r2⟩ := u64_rng hh
  obtain ⟨r3, r4⟩ := u64_rng hl
  obtain ⟨r5, r6⟩ := u64_rng hh'
  obtain ⟨r7, r8⟩ := u64_rng hl'
  have i2 : inA h2 l2 := ⟨(u64_rng hh2).1, (u64_rng hh2).2, (u64_rng hl2).1, (u64_rng hl2).2⟩
  obtain ⟨h, rfl⟩ : ∃ n : Nat, h = n := ⟨h.toNat, by omega⟩
  obtain ⟨l, rfl⟩ : ∃ n : Nat, l = n := ⟨l.toNat, by omega⟩
  obtain ⟨h', rfl⟩ : ∃ n : Nat, h' = n := ⟨h'.toNat, by omega⟩
  obtain ⟨l', rfl⟩ : ∃ n : Nat, l' = n := ⟨l'.toNat, by omega⟩
  refine Runs.of_body Tryd.func12 (by decide) rfl (by simp [Tryd.f12]) ?_
  refine W.seqE hT mixed M_f12 (by kernel_rfl) ?_
  simp [Tryd.f12]
  refine W.seqE hT mixed M_f12 (by kernel_rfl) ?_
  simp [SAlive2]
  by_cases hlen : 1000 < s.length
  · have hlen' : (1000 : Int) < s.length := by omega
    refine W.cut False [] [] 121 ?_ (fun h => h.elim)
    refine W.of_WE hT mixed M_f12 _ (by kernel_rfl) ?_
    simp [Tryd.f12, bs_size, hlen']
  have hlen' : ¬ (1000 : Int) < s.length := by omega
  obtain ⟨T1, e1, x1, a1, b1, c1, d1, g1, k1, k2, k3, k4⟩ := sinv1 (f := f) (h := h) (l := l) (h' := h') (l' := l') (by omega) (by omega) (by omega) (by omega)
  obtain ⟨x4, a4, b4, c4, d4, e4, T4, g4, q1, q2, q3⟩ := sinv2 (s := s) (by omega)
  have ck : SChkS [.int .u8 f, .agg [.int .u64 (h : Int), .int .u64 (l : Int), .int .u64 (h' : Int), .int .u64 (l' : Int)]] = some ⟨.int .i64 e1, []⟩ := by
    simp only [SChkS]; rw [k3]
  clear k3
  refine W.cut True [(0, .int .u8 f), (3, .str (bs s)), (5, .ptr 0 0), (6, .ptr 1 0), (9, .bool true)] [.box 65 [.int .u64 h, .int .u64 l, .int .u64 h', .int .u64 l'], .box 26 [.int .u8 f2, .int .u64 h2, .int .u64 l2, .int .i64 n2]] 121 ?_ ?_
  · refine W.of_WE hT mixed M_f12 _ (by kernel_rfl) ?_
    simp [Tryd.f12, bs_size, hlen']
  intro _
  refine W.seqE hT mixed M_f12 (by kernel_rfl) ?_
  simp [Tryd.f12, k1]
  refine W.seqE hT mixed M_f12 (by kernel_rfl) ?_
  simp [k2]
  refine W.cut True [(3, .str (bs s)), (6, .ptr 0 0), (9, .bool true), (13, .ptr 1 0)] [.box 26 [.int .u8 f2, .int .u64 h2, .int .u64 l2, .int .i64 n2], .box 65 [.int .u64 a1, .int .u64 b1, .int .u64 c1, .int .u64 d1]] 121 ?_ ?_
  · refine W.of_WE hT mixed M_f12 _ (by kernel_rfl) ?_
    by_cases he : e1 = 0
    · obtain ⟨rfl, rfl, rfl, rfl, rfl, rfl⟩ := k4 he
      simp [he, ck]
    · simp [he, ck]
  intro _
  refine W.seqE hT mixed M_f12 (by kernel_rfl) ?_
  simp [Tryd.f12, q1]
  refine W.seqE hT mixed M_f12 (by kernel_rfl) ?_
  simp [q2]
  refine W.cut True [(6, .ptr 0 0), (9, .bool true)] [.box 26 [.int .u8 f2, .int .u64 h2, .int .u64 l2, .int .i64 n2]] 121 ?_ ?_
  · refine W.of_WE hT mixed M_f12 _ (by kernel_rfl) ?_
    by_cases he : e4 = 0
    · obtain ⟨rfl, rfl⟩ := q3 he
      simp [he]
    · simp [he]
  intro _
  by_cases hc : chkP f2 h2 l2 n2 = 0
  · have ho : SOf [.agg [.int .u8 f2, .int .u64 h2, .int .u64 l2, .int .i64 n2]] = some ⟨.tup [.agg [.int .u64 h2, .int .u64 l2, .int .u64 (lastA h2 l2 (widN f2 - n2.toNat)).1, .int .u64 (lastA h2 l2 (widN f2 - n2.toNat)).2], .int .i64 0], []⟩ := by
      simp only [SOf]; rw [if_pos i2, if_pos hc]
    have hp := pre_one i2 hc
    have hk : SCheck [.agg [.int .u8 f2, .int .u64 h2, .int .u64 l2, .int .i64 n2]] = some ⟨.int .i64 0, []⟩ := by
      simp only [SCheck]; rw [if_pos i2, hc]
    generalize (lastA h2 l2 (widN f2 - n2.toNat)).1 = p1 at *
    generalize (lastA h2 l2 (widN f2 - n2.toNat)).2 = p2 at *
    refine W.seqE hT mixed M_f12 (by kernel_rfl) ?_
    simp [Tryd.f12, ho]
    refine W.cut True [(6, .ptr 0 0), (9, .bool true), (15, .ptr 1 0)] [.box 26 [.int .u8 f2, .int .u64 h2, .int .u64 l2, .int .i64 n2], .box 65 [.int .u64 h2, .int .u64 l2, .int .u64 p1, .int .u64 p2]] 121 ?_ ?_
    · refine W.of_WE hT mixed M_f12 _ (by kernel_rfl) ?_
      simp
    intro _
    refine W.seqE hT mixed M_f12 (by kernel_rfl) ?_
    simp [Tryd.f12, hp]
    refine W.of_WE hT mixed M_f12 _ (by kernel_rfl) ?_
    simp [Tryd.f12, hk]
  · have ho : SOf [.agg [.int .u8 f2, .int .u64 h2, .int .u64 l2, .int .i64 n2]] = some ⟨.tup [.agg [.int .u64 0, .int .u64 0, .int .u64 0, .int .u64 0], .int .i64 (chkP f2 h2 l2 n2)], []⟩ := by
      simp only [SOf]; rw [if_pos i2, if_neg hc]
    generalize chkP f2 h2 l2 n2 = ck2 at *
    refine W.seqE hT mixed M_f12 (by kernel_rfl) ?_
    simp [Tryd.f12, ho]
    refine W.cut False [] [] 121 ?_ (fun h => h.elim)
    refine W.of_WE hT mixed M_f12 _ (by kernel_rfl) ?_
    simp [Tryd.f12, hc]

end Go.Proofs.YtbnjijffkjcmcaaDoor.AL
