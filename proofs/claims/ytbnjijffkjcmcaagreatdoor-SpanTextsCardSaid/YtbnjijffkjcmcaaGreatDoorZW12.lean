import Derived.Test.YtbnjijffkjcmcaaGreatDoorZW11
import Derived.Test.YtbnjijffkjcmcaaGreatDoorZW4
import Derived.Test.YtbnjijffkjcmcaaGreatDoorZW6
import Derived.Test.YtbnjijffkjcmcaaGreatDoorZW10
import Derived.Test.YtbnjijffkjcmcaaGreatDoorZAL4
import Derived.LaidMore
import Derived.Stop.Joined
import Derived.Stop.LaidErr
import Derived.Lib.LaidTab
import Derived.Shelf.Vars
import Derived.HandedShaped
import Derived.Lib.Walk
import Derived.Lib.AtoiErrMem
import Derived.Test.YtbnjijffkjcmcaaGreatDoorZW9
import Derived.Test.YtbnjijffkjcmcaaGreatDoorRows
/- What single functions compute: a part of the proof; no conditions. -/
set_option linter.unusedVariables false
set_option linter.unusedSimpArgs false
set_option maxRecDepth 100000
set_option linter.unusedSectionVars false
namespace Go.Proofs.YtbnjijffkjcmcaaGreatDoor.AL
open Go
attribute [local simp] qf cv qbin ibin sbin qun retPost rvOk ctV ctPost marksOk retV resAll resOf V.lt ltL V.ren renL V.exp V.exp1 cleanL V.clean closedL V.closed V.cells V.one V.tree
  loadV cellsAt isNC nilQ isSlD isIfD slNew ownRows ownCells V.isOwn slStore srcO qlook mlook mget mstr zval qnone qmake mput lmap isAggD placesOf fillV putCells lstore bound seqParts V.sh shL Blk.sh newV V.ok peqs peq srcRows qbytes byteSl appOk mmV mmR hidE V.fz fzL Blk.fz fzOk and_assoc
attribute [-simp] Int.not_le Int.not_lt Nat.not_le Nat.not_lt
/-! The reference's strings of prefixes and systems. -/
theorem chk_at {f n : Int} {h l : Nat} (hh : h < 18446744073709551616) (hl : l < 18446744073709551616) : SCheck [.agg [.int .u8 f, .int .u64 (h : Int), .int .u64 (l : Int), .int .i64 n]] = some ⟨.int .i64 (chkP f h l n), []⟩ := by
  simp only [SCheck]
  rw [if_pos ⟨by omega, by omega, by omega, by omega⟩]
theorem rnum_bd {b lim : Nat} (hb : 1 ≤ b) (hb' : b ≤ 16) (l : List UInt8) : (rnum b lim l).1 < 1099511627776 := by
  unfold rnum
  split
  · simp
  · rename_i h
    split
    · rename_i n hn
      have := nvF_bd (k := l.length) hb hb' (l := l) (by omega) (by rw [List.take_length, hn]; rfl)
      unfold nvF at this
      rw [List.take_length, hn] at this
      exact this
    · simp
def M_f14 : Md := fun i => some #[]
@[simp] theorem M_f14_eq {i : Nat} : M_f14 i = (some #[]) := rfl
theorem runs_ref01_Text : ∀ args r, STx args = some r → Runs Tryz.prog 14 args r := by
  intro args r hh
  unfold STx ifC at hh
  split at hh
  · rename_i f h0 l0 n
    split at hh
    · rename_i hin
      obtain ⟨a1, a2, a3, a4⟩ := hin
      obtain ⟨h, rfl⟩ := Int.eq_ofNat_of_zero_le a1
      obtain ⟨l, rfl⟩ := Int.eq_ofNat_of_zero_le a3
      cases hh
      rw [Int.toNat_natCast, Int.toNat_natCast]
      have hT : (((T0.add 35 SCheck).add 15 SAddrT).add 36 SDg).ok Tryz.prog := Tab.add_ok (Tab.add_ok (Tab.add_ok (T0_ok _) runs_ref01_Check) runs_ref01_AddrText) runs_ref01_Digits
      have hck := chk_at (f := f) (n := n) (h := h) (l := l) (by omega) (by omega)
      have hat := addrT_at (f := f) (h := h) (l := l) (by omega) (by omega)
      refine Runs.of_body Tryz.func14 (by decide) rfl (by simp [Tryz.f14]) ?_
      by_cases hc : chkP f h l n = 0
      · obtain ⟨hca, j, rfl, hj⟩ := chk_addr hc
        have hit := dg_at (n := j) (b := 10) (by omega) (.inl rfl)
        rw [show ((10 : Nat) : Int) = 10 from rfl] at hit
        have hlen := addrT_len f.toNat h l
        have hdl : (dgs 10 j).length ≤ 3 := dgs_len (by omega) 2 j (by omega) (by omega)
        have hw : IntKind.u64.wrap (j : Int) = (j : Int) := wr_u64 (by omega) (by omega)
        rw [if_pos hc, Int.toNat_natCast]
        rw [if_pos hca] at hat
        rw [hc] at hck
        have e : ppT f.toNat h l j = addrT f.toNat h l ++ 47 :: dgs 10 j := rfl
        rw [e]
        generalize addrT f.toNat h l = X at *
        generalize dgs 10 j = Y at *
        have hc1 : bs X ++ ⟨#[47]⟩ = bs (X ++ [47]) := bs_append X [47]
        have hc2 : bs (X ++ [47]) ++ bs Y = bs (X ++ 47 :: Y) := by rw [bs_append]; simp
        have hz : (⟨#[47]⟩ : ByteArray).size = 1 := rfl
        have hz1 : ((bs X).size : Int) + 1 ≤ 9223372036854775807 := by rw [bs_size]; omega
        have hz2 : ((bs (X ++ [47])).size : Int) + (bs Y).size ≤ 9223372036854775807 := by rw [bs_size, bs_size]; simp; omega
        refine W.of_WE hT mixed M_f14 _ (by kernel_rfl) ?_
        simp [Tryz.f14, hck, hat, hit, hw, hc1, hc2, hz, hz1, hz2]
      · rw [if_neg hc]
        generalize chkP f h l n = ck at *
        refine W.of_WE hT mixed M_f14 _ (by kernel_rfl) ?_
        simp [Tryz.f14, hck, hc]
        rfl
    · cases hh
  · cases hh
def M_f20 : Md := fun i => some #[]
@[simp] theorem M_f20_eq {i : Nat} : M_f20 i = (some #[]) := rfl
theorem runs_ref01_Parse : ∀ args r, SPf args = some r → Runs Tryz.prog 20 args r := by
  intro args r hh
  unfold SPf ifC at hh
  split at hh
  · rename_i s0
    obtain ⟨l, rfl⟩ := bs_ex s0
    rw [bs_size, bs_data] at hh
    split at hh
    · rename_i hlen
      cases hh
      rw [← rp_eq]
      have hT : ((((T0.add 22 SPrt).add 23 SAP).add 46 SNm).add 35 SCheck).ok Tryz.prog := Tab.add_ok (Tab.add_ok (Tab.add_ok (Tab.add_ok (T0_ok _) runs_ref01_Parts) runs_ref01_AddrParse) runs_ref01_Number) runs_ref01_Check
      have hp := prt_at (l := l) 47 hlen
      rw [show ((47 : UInt8).toNat : Int) = 47 from rfl] at hp
      have hpp := spl_part 47 l
      have hbl := bRows_len (spl 47 l)
      refine Runs.of_body Tryz.func20 (by decide) rfl (by simp [Tryz.f20]) ?_
      refine W.seqE hT mixed M_f20 (by kernel_rfl) ?_
      simp [Tryz.f20]
      refine W.seqE hT mixed M_f20 (by kernel_rfl) ?_
      simp [hp]
      by_cases h2 : (spl 47 l).length = 2
      · obtain ⟨x, y, hxy⟩ : ∃ x y, spl 47 l = [x, y] := by
          match h : spl 47 l, h2 with
          | [x, y], _ => exact ⟨x, y, rfl⟩
        have hr : rp l = rpX x y (ra x) := by unfold rp; rw [hxy]
        rw [hr, ra_eq]
        have hx := hpp x (by rw [hxy]; simp)
        have hy := hpp y (by rw [hxy]; simp)
        have ha := ap_at (l := x) (by omega)
        have hn := nm_at (l := y) (b := 10) (lim := 128) (.inl rfl) (by omega) (by omega)
        rw [show ((10 : Nat) : Int) = 10 from rfl, show ((128 : Nat) : Int) = 128 from rfl] at hn
        have hbr : bRows (spl 47 l) = [[.str (bs x)], [.str (bs y)]] := by rw [hxy]; rfl
        rw [hbr]
        have hbd := rnum_bd (b := 10) (lim := 128) (by omega) (by omega) y
        refine W.cut True [(2, .ptr 0 0), (4, .own 1)] [.box 39 [.int .u8 0, .int .u64 0, .int .u64 0, .int .i64 0], .sl 1 9 [[.str (bs x)], [.str (bs y)]]] 50 ?_ ?_
        · refine W.of_WE hT mixed M_f20 _ (by kernel_rfl) ?_
          simp [Tryz.f20]
        intro _
        have hb : ∀ f h l, pa x = some (f, h, l) → f < 256 ∧ h < 18446744073709551616 ∧ l < 18446744073709551616 := by
          intro f h l e
          rcases (pa_iff.1 e).1 with ⟨rfl, q1, q2⟩ | ⟨rfl, rfl, q2⟩
          · exact ⟨by omega, q1, q2⟩
          · exact ⟨by omega, by omega, by omega⟩
        generalize hpa : pa x = o at *
        cases hnn : rnum 10 128 y with
        | mk n i =>
        rw [hnn] at hn hbd
        have hw : IntKind.i64.wrap (n : Int) = n := wr_i64 (by omega) (by simp only at hbd; omega)
        cases o with
        | none =>
          have e1 : rpX x y none = none := rfl
          rw [e1]
          refine W.seqE hT mixed M_f20 (by kernel_rfl) ?_
          simp [Tryz.f20, ha, paV]
          refine W.seqE hT mixed M_f20 (by kernel_rfl) ?_
          simp [hn]
          refine W.seqE hT mixed M_f20 (by kernel_rfl) ?_
          simp [hw]
          refine W.of_WE hT mixed M_f20 _ (by kernel_rfl) ?_
          simp [Tryz.f20, ppV]
        | some v =>
          obtain ⟨f, h, l2⟩ := v
          obtain ⟨b1, b2, b3⟩ := hb f h l2 rfl
          have hck := chk_at (f := f) (n := n) b2 b3
          have e1 : rpX x y (some (f, h, l2)) = if i = true ∧ chkP f h l2 n = 0 then some (f, h, l2, n) else none := by unfold rpX; rw [hnn]
          rw [e1]
          generalize chkP f h l2 n = ck at *
          refine W.seqE hT mixed M_f20 (by kernel_rfl) ?_
          simp [Tryz.f20, ha, paV]
          refine W.seqE hT mixed M_f20 (by kernel_rfl) ?_
          simp [hn]
          refine W.seqE hT mixed M_f20 (by kernel_rfl) ?_
          simp [hw]
          refine W.of_WE hT mixed M_f20 _ (by kernel_rfl) ?_
          cases i with
          | false => simp [Tryz.f20, ppV]
          | true =>
            by_cases hz : ck = 0
            · simp [Tryz.f20, hck, hz, ppV]
            · simp [Tryz.f20, hck, hz, ppV]
      · have hr : rp l = none := by
          unfold rp
          split
          · rename_i e; rw [e] at h2; simp at h2
          · rfl
        rw [hr]
        refine W.cut False [] [] 50 ?_ (fun h => h.elim)
        refine W.of_WE hT mixed M_f20 _ (by kernel_rfl) ?_
        simp [Tryz.f20, hbl, h2, show ¬ ((spl 47 l).length : Int) = 2 by omega, ppV]
    · cases hh
  · cases hh

end Go.Proofs.YtbnjijffkjcmcaaGreatDoor.AL
namespace Go.Proofs.YtbnjijffkjcmcaaGreatDoor.AL
open Go
attribute [local simp] qf cv qbin ibin sbin qun retPost rvOk ctV ctPost marksOk retV resAll resOf V.lt ltL V.ren renL V.exp V.exp1 cleanL V.clean closedL V.closed V.cells V.one V.tree
  loadV cellsAt isNC nilQ isSlD isIfD slNew ownRows ownCells V.isOwn slStore srcO qlook mlook mget mstr zval qnone qmake mput lmap isAggD placesOf fillV putCells lstore bound seqParts V.sh shL Blk.sh newV V.ok peqs peq srcRows qbytes byteSl appOk mmV mmR hidE V.fz fzL Blk.fz fzOk and_assoc
attribute [-simp] Int.not_le Int.not_lt Nat.not_le Nat.not_lt
theorem num_adr {f x y : Int} (hf : f = 4 ∨ f = 6) (hin : inA x y) (h1 : numA (x, y) < 2 ^ widN f) : cAddr f x y = true := by
  have h0 : 0 ≤ numA (x, y) := by unfold numA; have := hin.1; have := hin.2.2.1; simp only; omega
  have := (toA_adr hf h0 h1).2
  rw [toA_numA hin.2.2.1 hin.2.2.2] at this
  exact this
/-- The prefixes of a span, in order. -/
def wList (f h1 l1 h2 l2 : Int) : List (Int × Nat) := wthN (numA (h1, l1)) (numA (h2, l2)) (widN f) 0
/-- Nothing has turned but block c. -/
def But (c : Nat) (s s' : St) : Prop := s.nx ≤ s'.nx ∧ ∀ b, b < s.nx → b ≠ c → s'.hp b = s.hp b
/-- What the walk's iterator does: for each prefix it calls yield; the caller brings what it keeps true. -/
def AllC : Ct := fun vs s K _ => ∃ (b c : Nat) (f h1 l1 h2 l2 : Int), vs = [.yld b, .ptr c 0] ∧ s.hp c = some (.box 42 [.int .u8 f, .int .u64 h1, .int .u64 l1, .int .u64 h2, .int .u64 l2]) ∧ c < s.nx ∧
  inA h1 l1 ∧ inA h2 l2 ∧ chkS f h1 l1 h2 l2 = 0 ∧ ∃ I : Nat → St → Prop, I 0 s ∧
    (∀ k p s0 s', (wList f h1 l1 h2 l2)[k]? = some p → I k s0 → But c s0 s' → CallY Tryz.prog b s' [.agg (rowW f p).row]
      (fun v s'' => v = .bool true ∧ I (k + 1) s'' ∧ s'.nx ≤ s''.nx ∧ ∀ x, (x = c ∨ (s0.nx ≤ x ∧ x < s'.nx)) → s''.hp x = s'.hp x) noX) ∧
    (∀ s0 s', I (wList f h1 l1 h2 l2).length s0 → But c s0 s' → K (.tup []) s')
structure WAt (c : Nat) (f h2 l2 : Int) (L : List (Int × Nat)) (I : Nat → St → Prop) (u : St) (k : Nat) (h l : Int) : Prop where
  hp : u.hp c = some (.box 42 [.int .u8 f, .int .u64 h, .int .u64 l, .int .u64 h2, .int .u64 l2])
  lt : c < u.nx
  inv : ∃ s0, I k s0 ∧ But c s0 u
  hin : inA h l
  hc : cAddr f h l = true
  le : numA (h, l) ≤ numA (h2, l2)
  rest : L.drop k = wthN (numA (h, l)) (numA (h2, l2)) (widN f) 0
def walkSt (b c : Nat) (u : St) : St := { tm := fun t => if t = 0 then .yld b else if t = 1 then .ptr c 0 else .junk, hp := u.hp, nx := u.nx, nt := 28 }
@[simp] theorem walkSt_tm {b c : Nat} {u : St} {t : Nat} : (walkSt b c u).tm t = if t = 0 then .yld b else if t = 1 then .ptr c 0 else .junk := rfl
@[simp] theorem walkSt_hp {b c : Nat} {u : St} : (walkSt b c u).hp = u.hp := rfl
@[simp] theorem walkSt_nx {b c : Nat} {u : St} : (walkSt b c u).nx = u.nx := rfl
@[simp] theorem walkSt_nt {b c : Nat} {u : St} : (walkSt b c u).nt = 28 := rfl
@[simp] theorem walkSt_top {b c : Nat} {u : St} : (walkSt b c u).top = true := rfl
@[simp] theorem walkSt_df {b c : Nat} {u : St} : (walkSt b c u).df = [] := rfl
@[simp] theorem walkSt_kp {b c : Nat} {u : St} : (walkSt b c u).kp = true := rfl
structure WI (c : Nat) (f h2 l2 : Int) (L : List (Int × Nat)) (I : Nat → St → Prop) where
  u : St
  k : Nat
  h : Int
  l : Int
  at' : WAt c f h2 l2 L I u k h l
theorem walk_next {P : Program} [Gl P] {c : Nat} {f h2 l2 : Int} {L : List (Int × Nat)} {I : Nat → St → Prop} {s' : St} (b k : Nat) (x y : Int) (hk : k < L.length) (hw : WAt c f h2 l2 L I s' (k + 1) x y) (h0 : s'.tm 0 = .yld b) (h1 : s'.tm 1 = .ptr c 0)
    (h2' : s'.nt = 28) (h3 : s'.top = true) (h4 : s'.df = []) (h5 : s'.kp = true) : ∃ j : WI c f h2 l2 L I, Wk P s' (walkSt b c j.u) ∧ L.length - j.k < L.length - k := by
  refine ⟨⟨s', k + 1, x, y, hw⟩, Wk.le ⟨fun t => ?_, fun _ _ h => h, Nat.le_refl _, h2'.symm, h3.symm, h4.symm, fun _ => h5⟩, ?_⟩
  · show (if t = 0 then V.yld b else if t = 1 then V.ptr c 0 else V.junk) = .junk ∨ _
    by_cases e0 : t = 0
    · subst e0; right; rw [h0]; rfl
    · by_cases e1 : t = 1
      · subst e1; right; rw [h1]; rfl
      · left; rw [if_neg e0, if_neg e1]
  · show L.length - (k + 1) < L.length - k
    omega
end Go.Proofs.YtbnjijffkjcmcaaGreatDoor.AL
namespace Go.Proofs.YtbnjijffkjcmcaaGreatDoor.AL
open Go
/-! The list of a span of one prefix; the reference's reading of a span. -/
theorem wrows_one {f h l h' l' : Int} (hin : inA h l) (hin' : inA h' l') (hc : chkS f h l h' l' = 0) : ∃ rest : List (List V), wRows f (numA (h, l)) (numA (h', l')) (widN f) 0 = [.int .u8 f, .int .u64 h, .int .u64 l, .int .i64 (fstN f h l h' l')] :: rest ∧
    (rest = [] ↔ lastA h l (widN f - fstN f h l h' l') = (h', l')) ∧ rest.length ≤ 300 := by
  obtain ⟨c1, c2, c3⟩ := chkS_zero hc
  have hle := (cmpA_le hin hin').1 c3
  obtain ⟨s1, s2, s3, s4⟩ := fst_step hin hin' c1 hle
  have hw := widN_le f
  have hlen := wRows_len (f := f) (a := numA (h, l)) (b := numA (h', l')) (k := widN f) (N := 0)
  have hp := ipow_pos (widN f - fstN f h l h' l')
  have hb' := numA_lt hin' c2
  have hb := numA_lt hin c1
  have t := toA_numA hin.2.2.1 hin.2.2.2 (h := h)
  have hL : inA (lastA h l (widN f - fstN f h l h' l')).1 (lastA h l (widN f - fstN f h l h' l')).2 := lastA_rng hin (by omega)
  generalize hn : fstN f h l h' l' = n at *
  refine ⟨(wthN (numA (h, l) + 2 ^ (widN f - n)) (numA (h', l')) (widN f) 0).map fun p => (rowW f p).row, ?_, ?_, ?_⟩
  · unfold wRows
    rw [s4]
    simp only [List.map_cons, rowW, t, PF.row]
    rw [show (widN f : Int) - ((widN f - n : Nat) : Int) = (n : Int) by omega]
  · rw [List.map_eq_nil_iff]
    constructor
    · intro he
      have heq : numA (h, l) + 2 ^ (widN f - n) - 1 = numA (h', l') := by
        rcases Int.lt_or_le (numA (h, l) + 2 ^ (widN f - n) - 1) (numA (h', l')) with q | q
        · exfalso
          have hN0 : 0 ≤ numA (h, l) + 2 ^ (widN f - n) := by omega
          have hN1 : numA (h, l) + 2 ^ (widN f - n) < 2 ^ widN f := by omega
          have hN2 : (2 : Int) ^ widN f ≤ 2 ^ 128 := by
            rw [← ipow, ← ipow]
            have := Nat.pow_le_pow_right (n := 2) (by omega) hw
            omega
          have h128 : (2 : Int) ^ 128 = 340282366920938463463374607431768211456 := rfl
          have hr := toA_rng hN0 (by omega)
          have hnum := numA_toA (numA (h, l) + 2 ^ (widN f - n))
          generalize hA : toA (numA (h, l) + 2 ^ (widN f - n)) = A at *
          obtain ⟨x, y⟩ := A
          have hcx : cAddr f x y = true := num_adr (cAddr_46 c1) hr (by rw [hnum]; exact hN1)
          have := (fst_step (f := f) hr hin' hcx (by rw [hnum]; omega)).2.2.2
          rw [hnum, he] at this
          cases this
        · omega
      refine numA_inj hL.2.2 hin'.2.2 ?_
      rw [s2]; exact heq
    · intro he
      have heq : numA (h, l) + 2 ^ (widN f - n) - 1 = numA (h', l') := by rw [← s2, he]
      exact wthN_empty (by omega)
  · unfold wRows at hlen
    rw [s4] at hlen
    simp only [List.map_cons, List.length_cons] at hlen
    omega
def rspX : Option (Nat × Nat × Nat) → Option (Nat × Nat × Nat) → Option (Nat × Nat × Nat × Nat × Nat)
  | some (f, h, l), some (g, h', l') => if f = g ∧ chkS f h l h' l' = 0 ∧ ¬ lastA h l (widN f - fstN f h l h' l') = ((h' : Int), (l' : Int)) then some (f, h, l, h', l') else none
  | _, _ => none
def rsp2 : List (List UInt8) → Option (Nat × Nat × Nat × Nat × Nat)
  | [x, y] => rspX (pa x) (pa y)
  | _ => none
theorem rsp_eq {s : List UInt8} (hp : pp s = none) : rsp2 (spl 45 s) = sp s := by
  apply Option.ext
  rintro ⟨f, h, l, h', l'⟩
  rw [sp_iff]
  constructor
  · intro e
    unfold rsp2 at e
    split at e
    · rename_i x y hxy
      unfold rspX at e
      split at e
      · rename_i f1 h1 l1 g h2 l2 q1 q2
        split at e
        · rename_i hq
          simp only [Option.some.injEq, Prod.mk.injEq] at e
          obtain ⟨rfl, rfl, rfl, rfl, rfl⟩ := e
          obtain ⟨v1, t1⟩ := pa_iff.1 q1
          obtain ⟨v2, t2⟩ := pa_iff.1 q2
          obtain ⟨i0, i1, i2, i3⟩ := (vA_inA v1).1
          obtain ⟨j0, j1, j2, j3⟩ := (vA_inA v2).1
          refine ⟨⟨by omega, by omega, by omega, by omega⟩, hq.2.1, ?_⟩
          have hj := join_spl 45 s
          rw [hxy, join_cons2] at hj
          unfold spT
          rw [if_neg hq.2.2, t1, hq.1, t2, ← hj]
          simp [Lib.join]
        · cases e
      · cases e
    · cases e
  · rintro ⟨⟨r1, r2, r3, r4⟩, hc, ht⟩
    have hin : inA (h : Int) (l : Int) := ⟨by omega, by omega, by omega, by omega⟩
    obtain ⟨c1, c2, c3⟩ := chkS_zero hc
    have v1 := vA_of c1 r1 r2
    have v2 := vA_of c2 r3 r4
    obtain ⟨k1, k2⟩ := fst_chk hin hc
    unfold spT at ht
    split at ht
    · rename_i hl
      have : pp s = some (f, h, l, fstN f h l h' l') := pp_iff.2 ⟨v1, k1, ht⟩
      rw [hp] at this
      cases this
    · rename_i hl
      have hno : ∀ a b c, (45 : UInt8) ∉ addrT a b c := fun a b c => addrT_no (c := 45) (.inl (by decide)) a b c
      have hs : spl 45 s = [addrT f h l, addrT f h' l'] := by
        rw [← ht, spl_app _ (hno f h l), spl_none (hno f h' l')]
      rw [hs]
      unfold rsp2 rspX
      simp only [pa_text v1, pa_text v2]
      rw [if_pos ⟨trivial, hc, hl⟩]
end Go.Proofs.YtbnjijffkjcmcaaGreatDoor.AL
namespace Go.Proofs.YtbnjijffkjcmcaaGreatDoor.AL
open Go
attribute [local simp] qf cv qbin ibin sbin qun retPost rvOk ctV ctPost marksOk retV resAll resOf V.lt ltL V.ren renL V.exp V.exp1 cleanL V.clean closedL V.closed V.cells V.one V.tree
  loadV cellsAt isNC nilQ isSlD isIfD slNew ownRows ownCells V.isOwn slStore srcO qlook mlook mget mstr zval qnone qmake mput lmap isAggD placesOf fillV putCells lstore bound seqParts V.sh shL Blk.sh newV V.ok peqs peq srcRows qbytes byteSl appOk mmV mmR hidE V.fz fzL Blk.fz fzOk and_assoc
attribute [-simp] Int.not_le Int.not_lt Nat.not_le Nat.not_lt
/-! The reference's strings of spans. -/
def M_f5 : Md := fun i => some #[]
@[simp] theorem M_f5_eq {i : Nat} : M_f5 i = (some #[]) := rfl
theorem runs_ref02_Text : ∀ args r, SST args = some r → Runs Tryz.prog 5 args r := by
  intro args r hh
  unfold SST ifC at hh
  split at hh
  · rename_i f h0 l0 h0' l0'
    split at hh
    · rename_i hin
      obtain ⟨hA, hB⟩ := hin
      obtain ⟨a1, a2, a3, a4⟩ := hA
      obtain ⟨b1, b2, b3, b4⟩ := hB
      obtain ⟨h, rfl⟩ := Int.eq_ofNat_of_zero_le a1
      obtain ⟨l, rfl⟩ := Int.eq_ofNat_of_zero_le a3
      obtain ⟨h', rfl⟩ := Int.eq_ofNat_of_zero_le b1
      obtain ⟨l', rfl⟩ := Int.eq_ofNat_of_zero_le b3
      cases hh
      simp only [Int.toNat_natCast]
      have hA : inA (h : Int) (l : Int) := ⟨a1, a2, a3, a4⟩
      have hB : inA (h' : Int) (l' : Int) := ⟨b1, b2, b3, b4⟩
      have hT : (((T0.add 13 SPre).add 14 STx).add 15 SAddrT).ok Tryz.prog := Tab.add_ok (Tab.add_ok (Tab.add_ok (T0_ok _) runs_ref02_Prefixes) runs_ref01_Text) runs_ref01_AddrText
      refine Runs.of_body Tryz.func5 (by decide) rfl (by simp [Tryz.f5]) ?_
      refine W.seqE hT mixed M_f5 (by kernel_rfl) ?_
      simp [Tryz.f5]
      by_cases hc : chkS f h l h' l' = 0
      · rw [if_pos hc]
        obtain ⟨c1, c2, c3⟩ := chkS_zero hc
        obtain ⟨k1, k2⟩ := fst_chk hA hc
        have hw := widN_le f
        obtain ⟨rest, hr1, hr2, hr3⟩ := wrows_one hA hB hc
        have hs1 : SPre [.int .u8 f, .agg [.int .u64 (h : Int), .int .u64 (l : Int), .int .u64 (h' : Int), .int .u64 (l' : Int)]] = some ⟨.tup [.own 0, .int .i64 0], [.sl 4 39 ([.int .u8 f, .int .u64 (h : Int), .int .u64 (l : Int), .int .i64 (fstN f h l h' l')] :: rest)]⟩ := by
          simp only [SPre]; rw [if_pos ⟨hA, hB⟩, if_pos hc, hr1]
        obtain ⟨v1, g1⟩ := cAddr_or c1 (by omega) (by omega)
        have hf : ((f.toNat : Nat) : Int) = f := by omega
        have hs4 := tx_at (f := f) (n := (fstN f h l h' l' : Int)) (h := h) (l := l) (by omega) (by omega)
        rw [if_pos k1, Int.toNat_natCast] at hs4
        have hs5 := addrT_at (f := f) (h := h) (l := l) (by omega) (by omega)
        rw [if_pos c1] at hs5
        have hs6 := addrT_at (f := f) (h := h') (l := l') (by omega) (by omega)
        rw [if_pos c2] at hs6
        have hsp : spT f.toNat h l h' l' = if lastA h l (widN f - fstN f h l h' l') = ((h' : Int), (l' : Int)) then ppT f.toNat h l (fstN f h l h' l') else addrT f.toNat h l ++ 45 :: addrT f.toNat h' l' := by
          unfold spT; rw [hf]
        have l5 := addrT_len f.toNat h l
        have l6 := addrT_len f.toNat h' l'
        rw [hsp]
        clear hsp k1 hr1
        generalize fstN f h l h' l' = n at *
        generalize ppT f.toNat h l n = X at *
        generalize addrT f.toNat h l = Y at *
        generalize addrT f.toNat h' l' = Z at *
        have e1 : bs Y ++ (⟨#[45]⟩ : ByteArray) = bs (Y ++ [45]) := bs_append _ [45]
        have e2 : bs (Y ++ [45]) ++ bs Z = bs (Y ++ 45 :: Z) := by rw [bs_append]; simp
        have z1 : (bs Y).size ≤ 42 := by rw [bs_size]; omega
        have z2 : (bs (Y ++ [45])).size ≤ 43 := by rw [bs_size]; simp; omega
        have z3 : (bs Z).size ≤ 42 := by rw [bs_size]; omega
        have z4 : (⟨#[45]⟩ : ByteArray).size = 1 := rfl
        refine W.seqE hT mixed M_f5 (by kernel_rfl) ?_
        simp [Tryz.f5, hs1]
        refine W.cut True [(0, .int .u8 f), (3, .ptr 0 0), (6, .own 1)] [.box 26 [.int .u64 h, .int .u64 l, .int .u64 h', .int .u64 l'], .sl 4 39 ([.int .u8 f, .int .u64 (h : Int), .int .u64 (l : Int), .int .i64 n] :: rest)] 48 ?_ ?_
        · refine W.of_WE hT mixed M_f5 _ (by kernel_rfl) ?_
          simp [Tryz.f5]
        intro _
        by_cases hL : lastA h l (widN f - n) = ((h' : Int), (l' : Int))
        · rw [if_pos hL]
          obtain rfl := hr2.2 hL
          refine W.cut False [] [] 48 ?_ (fun h => h.elim)
          refine W.of_WE hT mixed M_f5 _ (by kernel_rfl) ?_
          simp [Tryz.f5, hs4]
        · rw [if_neg hL]
          have hne : ¬ rest = [] := fun q => hL (hr2.1 q)
          have hlen : ¬ (rest.length : Int) + 1 = 1 := by
            have : rest.length ≠ 0 := fun q => hne (List.length_eq_zero_iff.1 q)
            omega
          refine W.cut True [(0, .int .u8 f), (3, .ptr 0 0)] [.box 26 [.int .u64 h, .int .u64 l, .int .u64 h', .int .u64 l']] 48 ?_ ?_
          · refine W.of_WE hT mixed M_f5 _ (by kernel_rfl) ?_
            simp [Tryz.f5, hlen, hne]
          intro _
          refine W.seqE hT mixed M_f5 (by kernel_rfl) ?_
          simp [Tryz.f5, hs5]
          refine W.seqE hT mixed M_f5 (by kernel_rfl) ?_
          simp [hs6]
          refine W.of_WE hT mixed M_f5 _ (by kernel_rfl) ?_
          simp [Tryz.f5, e1, e2, z4]
          omega
      · rw [if_neg hc]
        have hs1 : SPre [.int .u8 f, .agg [.int .u64 (h : Int), .int .u64 (l : Int), .int .u64 (h' : Int), .int .u64 (l' : Int)]] = some ⟨.tup [.nils, .int .i64 (chkS f h l h' l')], []⟩ := by
          simp only [SPre]; rw [if_pos ⟨hA, hB⟩, if_neg hc]
        generalize chkS f h l h' l' = ck at *
        refine W.seqE hT mixed M_f5 (by kernel_rfl) ?_
        simp [Tryz.f5, hs1]
        refine W.cut False [] [] 48 ?_ (fun h => h.elim)
        refine W.of_WE hT mixed M_f5 _ (by kernel_rfl) ?_
        simp [Tryz.f5, hc]
        rfl
    · cases hh
  · cases hh
def M_f7 : Md := fun i => if i = 4 then some #[0, 1, 0, 3, 15, 31] else if i = 16 then some #[0, 0, 1, 7, 15] else some #[]
@[simp] theorem M_f7_eq {i : Nat} : M_f7 i = (if i = 4 then some #[0, 1, 0, 3, 15, 31] else if i = 16 then some #[0, 0, 1, 7, 15] else some #[]) := rfl
theorem runs_ref02_Parse : ∀ args r, SSP args = some r → Runs Tryz.prog 7 args r := by
  intro args r hh
  unfold SSP ifC at hh
  split at hh
  · rename_i s0
    obtain ⟨l, rfl⟩ := bs_ex s0
    rw [bs_size, bs_data] at hh
    split at hh
    · rename_i hlen
      cases hh
      have hT : ((((((T0.add 20 SPf).add 21 SOf).add 22 SPrt).add 23 SAP).add 24 SChkS).add 13 SPre).ok Tryz.prog := Tab.add_ok (Tab.add_ok (Tab.add_ok (Tab.add_ok (Tab.add_ok (Tab.add_ok (T0_ok _) runs_ref01_Parse) runs_ref02_Of) runs_ref01_Parts) runs_ref01_AddrParse) runs_ref02_Check) runs_ref02_Prefixes
      have hp := pf_at hlen
      refine Runs.of_body Tryz.func7 (by decide) rfl (by simp [Tryz.f7]) ?_
      refine W.seqE hT mixed M_f7 (by kernel_rfl) ?_
      simp [Tryz.f7]
      cases hpp : pp l with
      | some v =>
        obtain ⟨f, h, l2, n⟩ := v
        obtain ⟨hv, hc, ht⟩ := pp_iff.1 hpp
        obtain ⟨hin, hca⟩ := vA_inA hv
        obtain ⟨k1, k2, k3⟩ := fst_last hin hc
        obtain ⟨a0, a1, b0, b1⟩ := k3
        have e : sp l = some (f, h, l2, (lastA h l2 (widN f - n)).1.toNat, (lastA h l2 (widN f - n)).2.toNat) := by unfold sp; rw [hpp]
        rw [e]
        rw [hpp] at hp
        have ho : SOf [.agg [.int .u8 (f : Int), .int .u64 (h : Int), .int .u64 (l2 : Int), .int .i64 (n : Int)]] = some ⟨.tup [.agg [.int .u64 h, .int .u64 l2, .int .u64 (lastA h l2 (widN f - n)).1, .int .u64 (lastA h l2 (widN f - n)).2], .int .i64 0], []⟩ := by
          simp only [SOf]; rw [if_pos hin, if_pos hc, Int.toNat_natCast]
        have y1 : (((lastA h l2 (widN f - n)).1.toNat : Nat) : Int) = (lastA h l2 (widN f - n)).1 := by omega
        have y2 : (((lastA h l2 (widN f - n)).2.toNat : Nat) : Int) = (lastA h l2 (widN f - n)).2 := by omega
        simp only [spV, y1, y2]
        clear k1 k2 e
        generalize (lastA h l2 (widN f - n)).1 = p1 at *
        generalize (lastA h l2 (widN f - n)).2 = p2 at *
        refine W.seqE hT mixed M_f7 (by kernel_rfl) ?_
        simp [Tryz.f7, hp, ppV]
        refine W.cut False [] [] 88 ?_ (fun h => h.elim)
        refine W.of_WE hT mixed M_f7 _ (by kernel_rfl) ?_
        simp [Tryz.f7, ho]
      | none =>
        rw [← rsp_eq hpp]
        rw [hpp] at hp
        have hpr := prt_at (l := l) 45 hlen
        rw [show ((45 : UInt8).toNat : Int) = 45 from rfl] at hpr
        have hpart := spl_part 45 l
        have hbl := bRows_len (spl 45 l)
        refine W.seqE hT mixed M_f7 (by kernel_rfl) ?_
        simp [Tryz.f7, hp, ppV]
        refine W.cut True [(0, .str (bs l)), (3, .ptr 0 0)] [.box 26 [.int .u64 0, .int .u64 0, .int .u64 0, .int .u64 0]] 88 ?_ ?_
        · refine W.of_WE hT mixed M_f7 _ (by kernel_rfl) ?_
          simp [Tryz.f7]
        intro _
        refine W.seqE hT mixed M_f7 (by kernel_rfl) ?_
        simp [Tryz.f7, hpr]
        by_cases h2 : (spl 45 l).length = 2
        · obtain ⟨x, y, hxy⟩ : ∃ x y, spl 45 l = [x, y] := by
            match h : spl 45 l, h2 with
            | [x, y], _ => exact ⟨x, y, rfl⟩
          have hr : rsp2 (spl 45 l) = rspX (pa x) (pa y) := by rw [hxy]; rfl
          rw [hr]
          have hx := hpart x (by rw [hxy]; simp)
          have hy := hpart y (by rw [hxy]; simp)
          have ha := ap_at (l := x) (by omega)
          have hb := ap_at (l := y) (by omega)
          have hbr : bRows (spl 45 l) = [[.str (bs x)], [.str (bs y)]] := by rw [hxy]; rfl
          rw [hbr]
          refine W.cut True [(3, .ptr 0 0), (9, .own 1)] [.box 26 [.int .u64 0, .int .u64 0, .int .u64 0, .int .u64 0], .sl 1 9 [[.str (bs x)], [.str (bs y)]]] 88 ?_ ?_
          · refine W.of_WE hT mixed M_f7 _ (by kernel_rfl) ?_
            simp [Tryz.f7]
          intro _
          have bd : ∀ m f h l, pa m = some (f, h, l) → h < 18446744073709551616 ∧ l < 18446744073709551616 := by
            intro m f h l e
            rcases (pa_iff.1 e).1 with ⟨rfl, q1, q2⟩ | ⟨rfl, rfl, q2⟩
            · exact ⟨q1, q2⟩
            · exact ⟨by omega, by omega⟩
          have bdA := bd x
          have bdB := bd y
          clear bd
          generalize pa x = oa at *
          generalize pa y = ob at *
          have key : ∀ (o : Option (Nat × Nat × Nat)), ∃ (x b c e : Int), paV o = .tup [.int .u8 x, .agg [.int .u64 b, .int .u64 c], .int .i64 e] ∧ ((o = none ∧ e = 12) ∨ (∃ f h l : Nat, o = some (f, h, l) ∧ e = 0 ∧ x = f ∧ b = h ∧ c = l)) := by
            intro o
            cases o with
            | none => exact ⟨_, _, _, _, rfl, .inl ⟨rfl, rfl⟩⟩
            | some v => obtain ⟨f, h, l⟩ := v; exact ⟨_, _, _, _, rfl, .inr ⟨f, h, l, rfl, rfl, rfl, rfl, rfl⟩⟩
          obtain ⟨x1, b1, c1, e1, q1, o1⟩ := key oa
          obtain ⟨x2, b2, c2, e2, q2, o2⟩ := key ob
          rw [q1] at ha
          rw [q2] at hb
          refine W.seqE hT mixed M_f7 (by kernel_rfl) ?_
          simp [Tryz.f7, ha]
          refine W.seqE hT mixed M_f7 (by kernel_rfl) ?_
          simp [hb]
          refine W.cut True [(3, .ptr 0 0), (6, .int .i64 e1), (10, .int .u8 x1), (12, .int .u8 x2), (14, .int .i64 e2), (15, .ptr 1 0)] [.box 26 [.int .u64 0, .int .u64 0, .int .u64 0, .int .u64 0], .box 26 [.int .u64 b1, .int .u64 c1, .int .u64 b2, .int .u64 c2]] 88 ?_ ?_
          · refine W.of_WE hT mixed M_f7 _ (by kernel_rfl) ?_
            simp
          intro _
          rcases o1 with ⟨rfl, rfl⟩ | ⟨f, h, l2, rfl, rfl, rfl, rfl, rfl⟩
          · have e0 : rspX none ob = none := by unfold rspX; rfl
            rw [e0]
            refine W.cut False [] [] 88 ?_ (fun h => h.elim)
            refine W.of_WE hT mixed M_f7 _ (by kernel_rfl) ?_
            simp [Tryz.f7, spV]
          · rcases o2 with ⟨rfl, rfl⟩ | ⟨g, h2', l3, rfl, rfl, rfl, rfl, rfl⟩
            · have e0 : rspX (some (f, h, l2)) none = none := by unfold rspX; rfl
              rw [e0]
              refine W.cut False [] [] 88 ?_ (fun h => h.elim)
              refine W.of_WE hT mixed M_f7 _ (by kernel_rfl) ?_
              simp [Tryz.f7, spV]
            · have e0 : rspX (some (f, h, l2)) (some (g, h2', l3)) = if f = g ∧ chkS f h l2 h2' l3 = 0 ∧ ¬ lastA h l2 (widN f - fstN f h l2 h2' l3) = ((h2' : Int), (l3 : Int)) then some (f, h, l2, h2', l3) else none := rfl
              rw [e0]
              by_cases hfg : f = g
              · subst hfg
                obtain ⟨r1, r2⟩ := bdA _ _ _ rfl
                obtain ⟨r3, r4⟩ := bdB _ _ _ rfl
                have hA : inA (h : Int) (l2 : Int) := ⟨by omega, by omega, by omega, by omega⟩
                have hB : inA (h2' : Int) (l3 : Int) := ⟨by omega, by omega, by omega, by omega⟩
                have hck : SChkS [.int .u8 (f : Int), .agg [.int .u64 (h : Int), .int .u64 (l2 : Int), .int .u64 (h2' : Int), .int .u64 (l3 : Int)]] = some ⟨.int .i64 (chkS f h l2 h2' l3), []⟩ := rfl
                by_cases hc : chkS f h l2 h2' l3 = 0
                · obtain ⟨rest, hr1, hr2, hr3⟩ := wrows_one hA hB hc
                  have hs1 : SPre [.int .u8 (f : Int), .agg [.int .u64 (h : Int), .int .u64 (l2 : Int), .int .u64 (h2' : Int), .int .u64 (l3 : Int)]] = some ⟨.tup [.own 0, .int .i64 0], [.sl 4 39 ([.int .u8 f, .int .u64 (h : Int), .int .u64 (l2 : Int), .int .i64 (fstN f h l2 h2' l3)] :: rest)]⟩ := by
                    simp only [SPre]; rw [if_pos ⟨hA, hB⟩, if_pos hc, hr1]
                  rw [hc] at hck
                  clear hr1
                  generalize fstN f h l2 h2' l3 = n at *
                  refine W.cut True [(3, .ptr 0 0), (10, .int .u8 f), (15, .ptr 1 0)] [.box 26 [.int .u64 0, .int .u64 0, .int .u64 0, .int .u64 0], .box 26 [.int .u64 h, .int .u64 l2, .int .u64 h2', .int .u64 l3]] 88 ?_ ?_
                  · refine W.of_WE hT mixed M_f7 _ (by kernel_rfl) ?_
                    simp [Tryz.f7, hck]
                  intro _
                  refine W.seqE hT mixed M_f7 (by kernel_rfl) ?_
                  simp [Tryz.f7, hs1]
                  by_cases hL : lastA h l2 (widN f - n) = ((h2' : Int), (l3 : Int))
                  · obtain rfl := hr2.2 hL
                    refine W.cut False [] [] 88 ?_ (fun h => h.elim)
                    refine W.of_WE hT mixed M_f7 _ (by kernel_rfl) ?_
                    simp [Tryz.f7, hL, spV]
                  · have hne : ¬ rest = [] := fun q => hL (hr2.1 q)
                    have hlen2 : ¬ (rest.length : Int) + 1 = 1 := by
                      have : rest.length ≠ 0 := fun q => hne (List.length_eq_zero_iff.1 q)
                      omega
                    refine W.of_WE hT mixed M_f7 _ (by kernel_rfl) ?_
                    simp [Tryz.f7, hlen2, hne, hL, hc, spV]
                · generalize chkS f h l2 h2' l3 = ck at *
                  refine W.cut False [] [] 88 ?_ (fun h => h.elim)
                  refine W.of_WE hT mixed M_f7 _ (by kernel_rfl) ?_
                  simp [Tryz.f7, hck, hc, spV]
              · refine W.cut False [] [] 88 ?_ (fun h => h.elim)
                refine W.of_WE hT mixed M_f7 _ (by kernel_rfl) ?_
                have hfg' : ¬ (f : Int) = (g : Int) := by omega
                simp [Tryz.f7, hfg, hfg', spV]
        · have hr : rsp2 (spl 45 l) = none := by
            unfold rsp2
            split
            · rename_i e; rw [e] at h2; simp at h2
            · rfl
          rw [hr]
          refine W.cut False [] [] 88 ?_ (fun h => h.elim)
          refine W.of_WE hT mixed M_f7 _ (by kernel_rfl) ?_
          simp [Tryz.f7, hbl, h2, show ¬ ((spl 45 l).length : Int) = 2 by omega, spV]
    · cases hh
  · cases hh

end Go.Proofs.YtbnjijffkjcmcaaGreatDoor.AL
namespace Go.Proofs.YtbnjijffkjcmcaaGreatDoor.AL
open Go
attribute [local simp] qf cv qbin ibin sbin qun retPost rvOk ctV ctPost marksOk retV resAll resOf V.lt ltL V.ren renL V.exp V.exp1 cleanL V.clean closedL V.closed V.cells V.one V.tree
  loadV cellsAt isNC nilQ isSlD isIfD slNew ownRows ownCells V.isOwn slStore srcO qlook mlook mget mstr zval qnone qmake mput lmap isAggD placesOf fillV putCells lstore bound seqParts V.sh shL Blk.sh newV V.ok peqs peq srcRows qbytes byteSl appOk mmV mmR hidE V.fz fzL Blk.fz fzOk and_assoc
attribute [-simp] Int.not_le Int.not_lt Nat.not_le Nat.not_lt
def M_f3 : Md := fun i => some #[]
@[simp] theorem M_f3_eq {i : Nat} : M_f3 i = (some #[]) := rfl
theorem sinv1 {f : Int} {h l h' l' : Nat} (r1 : h < 18446744073709551616) (r2 : l < 18446744073709551616) (r3 : h' < 18446744073709551616) (r4 : l' < 18446744073709551616) :
    ∃ T e x a b c d g, SST [.int .u8 f, .agg [.int .u64 (h : Int), .int .u64 (l : Int), .int .u64 (h' : Int), .int .u64 (l' : Int)]] = some ⟨.tup [.str (bs T), .int .i64 e], []⟩ ∧
      SSP [.str (bs T)] = some ⟨.tup [.int .u8 x, .agg [.int .u64 a, .int .u64 b, .int .u64 c, .int .u64 d], .int .i64 g], []⟩ ∧ chkS f h l h' l' = e ∧ (e = 0 → g = 0 ∧ x = f ∧ a = h ∧ b = l ∧ c = h' ∧ d = l') := by
  have hs := st_at (f := f) r1 r2 r3 r4
  by_cases hc : chkS f h l h' l' = 0
  · rw [if_pos hc] at hs
    obtain ⟨c1, c2, c3⟩ := chkS_zero hc
    obtain ⟨v1, g1⟩ := cAddr_or c1 r1 r2
    have hf : ((f.toNat : Nat) : Int) = f := by omega
    have hin : inA (h : Int) (l : Int) := ⟨by omega, by omega, by omega, by omega⟩
    have k2 := (fst_chk hin hc).2
    have hw := widN_le f
    have hlen := spT_len f.toNat h l h' l' (by rw [hf]; omega)
    have hp := sp_at (l := spT f.toNat h l h' l') (by omega)
    rw [sp_iff.2 ⟨⟨r1, r2, r3, r4⟩, by rw [hf]; exact hc, rfl⟩] at hp
    exact ⟨_, _, _, _, _, _, _, _, hs, hp, hc, fun _ => ⟨rfl, hf, rfl, rfl, rfl, rfl⟩⟩
  · rw [if_neg hc] at hs
    have hp := sp_at (l := []) (by simp)
    cases hq : sp [] with
    | none => rw [hq] at hp; exact ⟨_, _, _, _, _, _, _, _, hs, hp, rfl, fun h => absurd h hc⟩
    | some v => obtain ⟨x, y, z, u, w⟩ := v; rw [hq] at hp; exact ⟨_, _, _, _, _, _, _, _, hs, hp, rfl, fun h => absurd h hc⟩
theorem sinv2 {s : List UInt8} (hl : s.length < 100000) : ∃ x a b c d e T g, SSP [.str (bs s)] = some ⟨.tup [.int .u8 x, .agg [.int .u64 a, .int .u64 b, .int .u64 c, .int .u64 d], .int .i64 e], []⟩ ∧
    SST [.int .u8 x, .agg [.int .u64 a, .int .u64 b, .int .u64 c, .int .u64 d]] = some ⟨.tup [.str (bs T), .int .i64 g], []⟩ ∧ (e = 0 → g = 0 ∧ T = s) := by
  have hp := sp_at hl
  cases hq : sp s with
  | none =>
    rw [hq] at hp
    have hs := st_at (f := 0) (h := 0) (l := 0) (h' := 0) (l' := 0) (by omega) (by omega) (by omega) (by omega)
    exact ⟨_, _, _, _, _, _, _, _, hp, hs, fun h => by omega⟩
  | some v =>
    obtain ⟨f, h, l, h', l'⟩ := v
    rw [hq] at hp
    obtain ⟨⟨r1, r2, r3, r4⟩, hc, ht⟩ := sp_iff.1 hq
    have hs := st_at (f := (f : Int)) r1 r2 r3 r4
    rw [if_pos hc, Int.toNat_natCast, ht] at hs
    exact ⟨_, _, _, _, _, _, _, _, hp, hs, fun _ => ⟨rfl, rfl⟩⟩
theorem spanTexts_runs : ∀ As, ArgsV Tryz.prog Tryz.f3.params.toList [[.int .u8], [.int .u64, .int .u64, .int .u64, .int .u64], [.str]] As → Runs Tryz.prog 3 As ⟨.bool true, []⟩ := by
  intro As hA
  simp [Tryz.f3, ArgsV, LSh, VSh, argV] at hA
  obtain ⟨_, _, rfl, ⟨_, rfl, f, rfl, hf⟩, _, _, rfl, ⟨_, _, rfl, ⟨h, rfl, hh⟩, _, _, rfl, ⟨l, rfl, hl⟩, _, _, rfl, ⟨h', rfl, hh'⟩, _, rfl, l', rfl, hl'⟩, _, rfl, _, rfl, s0, rfl, hs0⟩ := hA
  simp only [List.head?_cons, Option.getD_some]
  have hT : ((((T0.add 4 SST).add 6 SSP).add 5 SST).add 7 SSP).ok Tryz.prog := Tab.add_ok (Tab.add_ok (Tab.add_ok (Tab.add_ok (T0_ok _) runs_span_Text) runs_span_Parse) runs_ref02_Text) runs_ref02_Parse
  obtain ⟨s, rfl⟩ := bs_ex s0
  obtain ⟨r1, r2⟩ := u64_rng hh
  obtain ⟨r3, r4⟩ := u64_rng hl
  obtain ⟨r5, r6⟩ := u64_rng hh'
  obtain ⟨r7, r8⟩ := u64_rng hl'
  obtain ⟨h, rfl⟩ : ∃ n : Nat, h = n := ⟨h.toNat, by omega⟩
  obtain ⟨l, rfl⟩ : ∃ n : Nat, l = n := ⟨l.toNat, by omega⟩
  obtain ⟨h', rfl⟩ : ∃ n : Nat, h' = n := ⟨h'.toNat, by omega⟩
  obtain ⟨l', rfl⟩ : ∃ n : Nat, l' = n := ⟨l'.toNat, by omega⟩
  refine Runs.of_body Tryz.func3 (by decide) rfl (by simp [Tryz.f3]) ?_
  refine W.seqE hT mixed M_f3 (by kernel_rfl) ?_
  simp [Tryz.f3]
  by_cases hlen : 1000 < s.length
  · have hlen' : (1000 : Int) < s.length := by omega
    refine W.cut False [] [] 67 ?_ (fun h => h.elim)
    refine W.of_WE hT mixed M_f3 _ (by kernel_rfl) ?_
    simp [Tryz.f3, bs_size, hlen']
  have hlen' : ¬ (1000 : Int) < s.length := by omega
  obtain ⟨T1, e1, _, _, _, _, _, _, k1, _, _, _⟩ := sinv1 (f := f) (h := h) (l := l) (h' := h') (l' := l') (by omega) (by omega) (by omega) (by omega)
  obtain ⟨x4, a4, b4, c4, d4, e4, _, _, q1, _, _⟩ := sinv2 (s := s) (by omega)
  refine W.cut True [(0, .int .u8 f), (2, .str (bs s)), (4, .ptr 0 0)] [.box 26 [.int .u64 h, .int .u64 l, .int .u64 h', .int .u64 l']] 67 ?_ ?_
  · refine W.of_WE hT mixed M_f3 _ (by kernel_rfl) ?_
    simp [Tryz.f3, bs_size, hlen']
  intro _
  refine W.seqE hT mixed M_f3 (by kernel_rfl) ?_
  simp [Tryz.f3, k1]
  refine W.seqE hT mixed M_f3 (by kernel_rfl) ?_
  simp [k1]
  refine W.seqE hT mixed M_f3 (by kernel_rfl) ?_
  simp [q1]
  refine W.seqE hT mixed M_f3 (by kernel_rfl) ?_
  simp [q1]
  refine W.of_WE hT mixed M_f3 _ (by kernel_rfl) ?_
  simp [Tryz.f3]

end Go.Proofs.YtbnjijffkjcmcaaGreatDoor.AL
namespace Go.Proofs.YtbnjijffkjcmcaaGreatDoor.AL
open Go
/-! A law whose row lists variables, with the world's shape. -/
open Go.WideShapes Go.ChangeShapes
section
variable {H : Type} {enc : TypeId × Value → H}
theorem handed_and_shaped {a : Assume} {C : Checked} {os : Os} {f : FuncId} {fn : Func} {s : ChangeSpec} {conds : List PathCond} {apart fresh handsOn again : Bool} {X : World → Array Value → Prop}
    (hX : ∀ (w w' : World) (args : Array Value), w.heap = w'.heap → X w args → X w' args)
    (own : ownKnob C.prog.godebug = none) (started : os.Started) (noInit : C.prog.inits.idxOf? f = none) (hfn : C.prog.funcs[f]? = some fn)
    (witness : ∃ (w : World) (tape : Tape) (i : Input), w.os = os ∧ (w.forCall tape i).Shaped C.prog ∧ i.vars = [] ∧ Input.okWide C.prog (w.forCall tape i) .any w.heap.size f i ∧
      ((s.pre enc C.prog fn conds apart (w.forCall tape i).memory i.args ∧ X (w.forCall tape i).memory i.args) ∧ sizedMet enc C.prog fn (OpenSpec.ofChange s) apart (w.forCall tape i).memory i.args) ∧ a.holds C.prog (lone (Frame.enter C.prog f i.args .normal) [] (w.forCall tape i)))
    (contract : ∀ (W : World) (base : Nat) (args : Array Value) (ds gs : List (DataW H)) (before : List MemPlace),
      (∀ (j : Nat) t v, fn.params[j]? = some t → args[j]? = some v → Value.okWide C.prog W .any base t v) →
      DataW.Whole enc C.prog fn.params.toList s.vars apart W args.toList ds gs before → X W args → W.ShapedOpen C.prog →
      Calls C.prog f args W fun e W' => ∃ v, e = .returned v ∧ s.post enc C.prog fn apart fresh handsOn again W args v W') :
    ReturnsInHanded a C os f .any (fun w args => (s.pre enc C.prog fn conds apart w args ∧ X w args) ∧ sizedMet enc C.prog fn (OpenSpec.ofChange s) apart w args) (s.post enc C.prog fn apart fresh handsOn again) := by
  refine returnsInHanded_of_calls own started noInit witness ?_
  intro w tape i _ hsh _ hok hpre hholds
  obtain ⟨_, _, _, fn', hfn', _, _, _, _, hval⟩ := hok
  have e : fn' = fn := Option.some.inj (hfn'.symm.trans hfn)
  subst e
  obtain ⟨⟨⟨ds, gs, before, hw, hc⟩, hx⟩, hz⟩ := hpre
  have hw' := DataW.Whole.of_heap (w' := w.forCall tape i) (by rfl) hw
  refine (contract (w.forCall tape i) w.heap.size i.args ds gs before hval hw' (hX _ _ _ (by rfl) hx) hsh).mono fun e W' ⟨v, he, hp⟩ => ?_
  subst he
  exact ChangeSpec.post_blind hp
theorem law_lifted_shaped {C : Checked} [Gl C.prog] {os : Os} {f : FuncId} {fn : Func} {c : Code} {s : ChangeSpec} {apart fresh handsOn : Bool} {tb : TypeId} {k : Nat} {ls : List (List Sh)} {laid : List (String × DataW Unit)}
    (own : ownKnob C.prog.godebug = none) (laidOut : laidOutB C.prog = true) (started : os.Started) (noInit : C.prog.inits.idxOf? f = none) (hf : C.prog.funcs[f]? = some fn) (hn : fn.name ≠ "runtime.NumGoroutine") (hb : fn.body = some c)
    (hvars : s.vars = []) (hres : fn.resultTypes = #[tb]) (htb : C.prog.underlying tb = some .bool) (hpar : ∀ t ∈ fn.params.toList, C.prog.readableRec t = true ∧ t < C.prog.types.size)
    (hspec : ∀ ds : List (DataW H), ds.length = fn.params.size → s.fn H ds = { results := [.lit (.bool true)], args := ds })
    (witness : ∃ (w : World) (tape : Tape) (i : Input), w.os = os ∧ (w.forCall tape i).Shaped C.prog ∧ i.vars = [] ∧ Input.okWide C.prog (w.forCall tape i) .any w.heap.size f i ∧
      ((s.pre enc C.prog fn [] apart (w.forCall tape i).memory i.args ∧ laidMetH C.prog laid (w.forCall tape i).memory) ∧ sizedMet enc C.prog fn (OpenSpec.ofChange s) apart (w.forCall tape i).memory i.args) ∧ ({} : Assume).holds C.prog (lone (Frame.enter C.prog f i.args .normal) [] (w.forCall tape i)))
    (hsh : shAll C.prog k fn.params.toList = some ls)
    (hglob : ∀ W : World, laidMetH C.prog laid W → W.ShapedOpen C.prog → GOK C.prog ⟨W, fun _ => False, fun _ => undef, fun _ => False⟩)
    (hruns : ∀ As, ArgsV C.prog fn.params.toList ls As → Runs C.prog f As ⟨.bool true, []⟩) :
    ReturnsInHanded {} C os f .any (fun w args => (s.pre enc C.prog fn [] apart w args ∧ laidMetH C.prog laid w) ∧ sizedMet enc C.prog fn (OpenSpec.ofChange s) apart w args) (s.post enc C.prog fn apart fresh handsOn false) := by
  refine handed_and_shaped (C := C) (X := fun w _ => laidMetH C.prog laid w) (fun _ _ _ hh h => h.of_heap hh) own started noInit hf witness ?_
  intro W base args ds gs before hval hW hL hS
  have hW' := hW
  obtain ⟨p, q, hA, hV, rfl, hfz, hnd⟩ := hW
  rw [hvars] at hV
  obtain ⟨rfl, rfl⟩ := trodVars_none hV
  obtain ⟨As, h1, h2⟩ := args_V (E := ⟨W, fun _ => False, fun _ => undef, fun _ => False⟩) rfl (by simp) hA hsh (fun j t v e1 e2 => hval j t v (by simpa using e1) (by simpa using e2))
  have hlen : ds.length = fn.params.size := by
    have : ∀ {ts : List TypeId} {vs : List Value} {ds : List (DataW H)} {ps : List MemPlace}, DataW.TrodAll enc C.prog W 0 (fun _ => true) true ts vs ds ps → ds.length = ts.length := by
      intro ts
      induction ts with
      | nil => intro vs ds ps h; obtain ⟨_, rfl, _⟩ := trodAll_nil h; rfl
      | cons t ts ih =>
        intro vs ds ps h
        obtain ⟨_, _, _, _, _, _, _, rfl, _, _, h2⟩ := trodAll_cons h
        simp [ih h2]
    simpa using this hA
  have hc := law_calls (vs := args.toList) hf hn hb (hruns As h1) (hglob W hL hS) h2
  rw [show args.toList.toArray = args by simp] at hc
  refine hc.mono fun e W' ⟨he, bel⟩ => ?_
  subst he
  obtain ⟨qs, hq⟩ := args_behind laidOut bel hA hpar
  refine ⟨_, rfl, ds, [], _, [], qs, [], hW', ?_, ?_, ?_, bel.frame _, fun h => by cases h⟩
  · rw [List.append_nil, hspec ds hlen, hres]
    exact trodAll_mk1 (Go.RowKit.shut_bool htb _)
  · rw [List.append_nil, hspec ds hlen]
    exact hq
  · rw [List.append_nil, hspec ds hlen, hvars]
    rfl
end
/-! What the listed variables tell. -/
theorem RRow.of_cells {E : Env} {g : Nat} : ∀ (cs : List V) (vs : List Value) (o : Nat), RL E cs vs → (∀ u ∈ vs, u.oneCell' = true) → (∀ j u, vs[j]? = some u → E.w.cell? ⟨g, o + j, none⟩ = some u) → RRow E cs g o :=
  fun cs vs o h1 h2 h3 => RRow.of_list h1 h3 h2
theorem RL_ints {E : Env} (k : IntKind) : ∀ (zs : List Int), RL E (zs.map fun n => .int k n) (zs.map fun n => Value.int k n)
  | [] => by simp [RL]
  | z :: zs => by simp only [List.map_cons, RL, R]; exact ⟨_, _, rfl, rfl, RL_ints k zs⟩
theorem rptr_of_tab {P : Program} {W : World} {name : String} {k : IntKind} {zs : List Int} {g : Nat} (h : Lib.TabIs P W name k zs) (hg : P.globalNamed name = some g) (hne : zs ≠ []) :
    R ⟨W, fun _ => False, fun _ => undef, fun _ => False⟩ (.rptr (zs.map fun n => .int k n) 0) (.pointer (some ⟨g, 0, none⟩)) := by
  have hc := fun i hi => h.cell hg i hi
  simp only [R]
  refine ⟨g, 0, rfl, fun h => h, ?_, ?_, RRow.of_cells _ (zs.map fun n => Value.int k n) 0 (RL_ints k zs) ?_ ?_⟩
  · obtain ⟨z, zs', rfl⟩ := List.exists_cons_of_ne_nil hne
    exact Lib.lt_of_cell (hc 0 (by simp))
  · intro c hc
    obtain ⟨n, _, rfl⟩ := List.mem_map.1 hc
    rfl
  · intro u hu
    obtain ⟨n, _, rfl⟩ := List.mem_map.1 hu
    rfl
  · intro j u hu
    rw [Nat.zero_add]
    obtain ⟨hj, rfl⟩ := List.getElem?_eq_some_iff.1 hu
    rw [hc j (by simpa using hj)]
    have hj' : j < zs.length := by simpa using hj
    simp [hj']
theorem lay_of_tab {P : Program} {W : World} {name : String} {k : IntKind} {zs : List Int} {g : Nat} (h : Lib.TabIs P W name k zs) (hg : P.globalNamed name = some g) :
    g < W.heap.size ∧ ∃ arr ty fr, W.heap[g]? = some (.cells arr ty fr) ∧ arr.toList = zs.map fun z => Value.int k z := by
  unfold Lib.TabIs World.var? at h
  rw [hg, Option.bind_some] at h
  split at h
  · rename_i cs ty fr hh
    simp only [Option.some.injEq] at h
    exact ⟨(Array.getElem?_eq_some_iff.1 hh).1, cs, ty, fr, hh, by rw [h]⟩
  · cases h
theorem rptr_one {W : World} {g : Nat} {x : V} {u : Value} (hx : x.tree = true) (h : W.cell? ⟨g, 0, none⟩ = some u) (ho : u.oneCell' = true) (hr : R ⟨W, fun _ => False, fun _ => undef, fun _ => False⟩ x u) :
    R ⟨W, fun _ => False, fun _ => undef, fun _ => False⟩ (.rptr [x] 0) (.pointer (some ⟨g, 0, none⟩)) := by
  simp only [R]
  refine ⟨g, 0, rfl, fun h => h, Lib.lt_of_cell h, ?_, ?_⟩
  · intro c hc
    simp only [List.mem_cons, List.not_mem_nil, or_false] at hc
    subst hc; exact hx
  · simp only [RRow]
    exact ⟨⟨u, h, ho, hr⟩, trivial⟩
end Go.Proofs.YtbnjijffkjcmcaaGreatDoor.AL
namespace Go.Proofs.YtbnjijffkjcmcaaGreatDoor.AL
open Go
attribute [local simp] qf cv qbin ibin sbin qun retPost rvOk ctV ctPost marksOk retV resAll resOf V.lt ltL V.ren renL V.exp V.exp1 cleanL V.clean closedL V.closed V.cells V.one V.tree
  loadV cellsAt isNC nilQ isSlD isIfD slNew ownRows ownCells V.isOwn slStore srcO qlook mlook mget mstr zval qnone qmake mput lmap isAggD placesOf fillV putCells lstore bound seqParts V.sh shL Blk.sh newV V.ok peqs peq srcRows qbytes byteSl appOk mmV mmR hidE V.fz fzL Blk.fz fzOk and_assoc
attribute [-simp] Int.not_le Int.not_lt Nat.not_le Nat.not_lt
/-! The row's listed variables, and the world's shape, give what the walks lean on. -/
def laidAll : List (String × DataW Unit) := [("math/bits.deBruijn32tab", Go.Proofs.YtbnjijffkjcmcaaGreatDoor.Rows.laid_math_bits_deBruijn32tab), ("math/bits.deBruijn64tab", Go.Proofs.YtbnjijffkjcmcaaGreatDoor.Rows.laid_math_bits_deBruijn64tab), ("internal/strconv.uint64pow10", Go.Proofs.YtbnjijffkjcmcaaGreatDoor.Rows.laid_internal_strconv_uint64pow10), ("unicode/utf8.acceptRanges", Go.Proofs.YtbnjijffkjcmcaaGreatDoor.Rows.laid_unicode_utf8_acceptRanges), ("strconv.ErrRange", Go.Proofs.YtbnjijffkjcmcaaGreatDoor.Rows.laid_strconv_ErrRange), ("strconv.ErrSyntax", Go.Proofs.YtbnjijffkjcmcaaGreatDoor.Rows.laid_strconv_ErrSyntax), ("unicode/utf8.first", Go.Proofs.YtbnjijffkjcmcaaGreatDoor.Rows.laid_unicode_utf8_first)]
theorem gokD (W : World) (h : laidMetH Tryz.prog laidAll W) (hs : W.ShapedOpen Tryz.prog) : GOK Tryz.prog ⟨W, fun _ => False, fun _ => undef, fun _ => False⟩ := by
  have h0 : laidMet Tryz.prog laidAll W := h
  have h1 := h0.tail
  have h2 := h1.tail
  have h3 := h2.tail
  have h4 := h3.tail
  have h5 := h4.tail
  have g5 : Tryz.prog.globalNamed "math/bits.deBruijn64tab" = some 5 := by kernel_rfl
  have g0 : Tryz.prog.globalNamed "internal/strconv.uint64pow10" = some 1 := by kernel_rfl
  have g2 : Tryz.prog.globalNamed "strconv.ErrSyntax" = some 2 := by kernel_rfl
  have g3 : Tryz.prog.globalNamed "strconv.ErrRange" = some 3 := by kernel_rfl
  have t5 : Lib.TabIs Tryz.prog W "math/bits.deBruijn64tab" .u8 [0, 1, 56, 2, 57, 49, 28, 3, 61, 58, 42, 50, 38, 29, 17, 4, 62, 47, 59, 36, 45, 43, 51, 22, 53, 39, 33, 30, 24, 18, 12, 5, 63, 55, 48, 27, 60, 41, 37, 16, 46, 35, 44, 21, 52, 32, 23, 11, 54, 26, 40, 15, 34, 20, 31, 10, 25, 14, 19, 9, 13, 8, 7, 6] :=
    Lib.tabIs_of_head (t := 162) (e := 5) (n := 64) g5 (by kernel_rfl) (by kernel_rfl) (by kernel_rfl) (by kernel_rfl) (by kernel_rfl) h1
  have t0 : Lib.TabIs Tryz.prog W "internal/strconv.uint64pow10" .u64 Lib.pow10Tab :=
    Lib.tabIs_of_head (t := 141) (e := 22) (n := 20) g0 (by kernel_rfl) (by kernel_rfl) (by kernel_rfl) (by kernel_rfl) (by kernel_rfl) h2
  have hrow : ∀ u, Tryz.prog.typeName? 3 u = some "*errors.errorString" → u = 158 := fun u hu => typeName_ptr_named (nm := "errors.errorString") (by rw [show "*" ++ "errors.errorString" = "*errors.errorString" by decide]; kernel_rfl) (by kernel_rfl) (by decide) u (by rw [show "*" ++ "errors.errorString" = "*errors.errorString" by decide]; exact hu)
  obtain ⟨a3, s3, v3, _⟩ := laid_sentinel (ti := 87) (tp := 158) (te := 160) (ts := 9) h4 g3 (by kernel_rfl) Tryz.underlying87 hrow (by kernel_rfl) Tryz.underlying160 rfl rfl (by kernel_rfl) (by kernel_rfl) (by kernel_rfl)
  obtain ⟨a2, s2, v2, _⟩ := laid_sentinel (ti := 87) (tp := 158) (te := 160) (ts := 9) h5 g2 (by kernel_rfl) Tryz.underlying87 hrow (by kernel_rfl) Tryz.underlying160 rfl rfl (by kernel_rfl) (by kernel_rfl) (by kernel_rfl)
  obtain ⟨m, hm⟩ := Go.Proofs.cell_of_shapedOpen_int (g := 0) (zero := #[.int .i64 0]) (t := 3) (k := .i64) hs (of_decide_eq_true (by kernel_rfl)) (by kernel_rfl) rfl (by kernel_rfl) (by kernel_rfl) (by kernel_rfl)
  have c3 := World.var?_cell g3 v3 0
  have c2 := World.var?_cell g2 v2 0
  refine ⟨fun g => ?_, fun g cs hg => ?_⟩
  · show R _ (gvT g) _
    unfold gvT
    split
    · rename_i e; subst e; exact rptr_of_tab t5 g5 (by simp)
    · split
      · rename_i e; subst e; exact rptr_one rfl hm rfl (by simp [R])
      · split
        · rename_i e; subst e; exact rptr_one rfl (by simpa using c2) rfl (by simp [R])
        · split
          · rename_i e; subst e; exact rptr_one rfl (by simpa using c3) rfl (by simp [R])
          · simp [R]
  · change gvL g = some cs at hg
    unfold gvL at hg
    split at hg
    · rename_i e
      subst e
      cases hg
      obtain ⟨k1, k2⟩ := lay_of_tab t0 g0
      exact ⟨fun h => h, k1, k2⟩
    · cases hg

end Go.Proofs.YtbnjijffkjcmcaaGreatDoor.AL
