import Derived.Test.YtbnjijffkjcmcaaGreatDoorZW8
import Derived.Test.YtbnjijffkjcmcaaGreatDoorZW6
/- What single functions compute: a part of the proof; no conditions. -/
set_option linter.unusedVariables false
set_option linter.unusedSimpArgs false
set_option maxRecDepth 100000
namespace Go.Proofs.YtbnjijffkjcmcaaGreatDoor.AL
open Go
attribute [local simp] qf cv qbin ibin sbin qun retPost rvOk ctV ctPost marksOk retV resAll resOf V.lt ltL V.ren renL V.exp V.exp1 cleanL V.clean closedL V.closed V.cells V.one V.tree
  loadV cellsAt isNC nilQ isSlD isIfD slNew ownRows ownCells V.isOwn slStore srcO qlook mlook mget mstr zval qnone qmake mput lmap isAggD placesOf fillV putCells lstore bound seqParts V.sh shL Blk.sh newV V.ok peqs peq srcRows qbytes byteSl appOk mmV mmR hidE V.fz fzL Blk.fz fzOk and_assoc
attribute [-simp] Int.not_le Int.not_lt Nat.not_le Nat.not_lt
def acc (L : List Nat) : Nat × Nat := L.foldl putN (0, 0)
theorem acc_snoc (L : List Nat) (x : Nat) : acc (L ++ [x]) = putN (acc L) x := by simp [acc]
theorem acc_lt {L : List Nat} (h : ∀ x ∈ L, x < 65536) : (acc L).1 < 18446744073709551616 ∧ (acc L).2 < 18446744073709551616 := putN_fold L (0, 0) h (by decide) (by decide)
theorem take_snoc_nat (L : List Nat) (k : Nat) (h : k < L.length) : L.take (k + 1) = L.take k ++ [L[k]] := List.take_succ_eq_append_getElem h
@[simp] theorem uRows_getElem (L : List Nat) (i : Nat) (h : i < (uRows L).length) : (uRows L)[i] = [.int .u64 ((L[i]'(by simpa using h) : Nat) : Int)] := by simp [uRows]
/-- The parts of the string, and what is read of them. -/
def p6l (l : List UInt8) : List UInt8 := (Lib.cut l [58, 58]).1
def p6r (l : List UInt8) : List UInt8 := (Lib.cut l [58, 58]).2.1
def p6s (l : List UInt8) : Bool := (Lib.cut l [58, 58]).2.2
def p6n (l : List UInt8) : Nat := if p6s l = true then 8 - ((fieldsL (p6l l)).length + (fieldsL (p6r l)).length) else 0
theorem p6_eq (l : List UInt8) : parse6L l = acc (fieldsL (p6l l) ++ List.replicate (p6n l) 0 ++ fieldsL (p6r l)) := by
  have hc := cut_cutG (sep := [58, 58]) (by simp) l
  unfold parse6L p6n p6l p6r p6s
  rw [hc, cut2_G]
  cases cut2 l with
  | none => simp [fieldsL, acc]
  | some p => obtain ⟨a, b⟩ := p; rfl
theorem p6_len (l : List UInt8) : (p6l l).length ≤ l.length ∧ (p6r l).length ≤ l.length := by
  have hc := cut_cutG (sep := [58, 58]) (by simp) l
  unfold p6l p6r
  rw [hc]
  cases h : cutG [58, 58] l with
  | none => simp
  | some p =>
    obtain ⟨a, b⟩ := p
    have := (cutG_len (by simp) h).2
    simp at this ⊢
    omega
theorem fields_len (l : List UInt8) : (fieldsL l).length ≤ l.length + 1 := by
  unfold fieldsL
  split
  · simp
  · have := spl_len 58 l
    simpa using this
def SP6 : List V → Option Res
  | [.str s] => if s.size < 100000 then some ⟨adV (parse6L s.data.toList), []⟩ else none
  | _ => none
theorem p6_at {l : List UInt8} (h : l.length < 100000) : SP6 [.str (bs l)] = some ⟨.agg [.int .u64 ((parse6L l).1 : Int), .int .u64 ((parse6L l).2 : Int)], []⟩ := by
  simp only [SP6, bs_size, bs_data]
  rw [if_pos h]
  rfl
def adC (L : List Nat) : List V := [.int .u64 ((acc L).1 : Int), .int .u64 ((acc L).2 : Int)]
@[simp] theorem adC_ren (ns : List Nat) (L : List Nat) : renL ns (adC L) = adC L := nr rfl
@[simp] theorem adC_lt (n : Nat) (L : List Nat) : ltL n (adC L) = true := nr rfl
theorem runs_parse6 : ∀ args r, SP6 args = some r → Runs Tryz.prog 45 args r := by
  intro args r hh
  unfold SP6 at hh
  split at hh
  · rename_i s0
    obtain ⟨l, rfl⟩ := bs_ex s0
    rw [bs_size, bs_data] at hh
    split at hh
    · rename_i hlen
      cases hh
      have hT : (((T0.add 18 SCutS).add 71 SFldR).add 72 SPut).ok Tryz.prog := Tab.add_ok (Tab.add_ok (Tab.add_ok (T0_ok _) runs_CutS) runs_fldR) runs_put
      have hcut : SCutS [.str (bs l), .str ⟨#[58, 58]⟩] = some ⟨.tup [.str (bs (p6l l)), .str (bs (p6r l)), .bool (p6s l)], []⟩ := cutS_at (sep := [58, 58]) (by simp) (by omega)
      have hpl := p6_len l
      have hfl := fld_at (l := p6l l) (by omega)
      have hfr := fld_at (l := p6r l) (by omega)
      have hA := fields_lt (p6l l)
      have hB := fields_lt (p6r l)
      have hAl := fields_len (p6l l)
      have hBl := fields_len (p6r l)
      have hres := p6_eq l
      have hnn : p6n l = if p6s l = true then 8 - ((fieldsL (p6l l)).length + (fieldsL (p6r l)).length) else 0 := rfl
      show Runs _ _ _ ⟨.agg [.int .u64 ((parse6L l).1 : Int), .int .u64 ((parse6L l).2 : Int)], []⟩
      rw [hres]
      clear hres
      refine Runs.of_body Tryz.func45 (by decide) rfl (by simp [Tryz.f45]) ?_
      refine W.seqE hT mixed M0 (by kernel_rfl) ?_
      simp [Tryz.f45]
      refine W.seqE hT mixed M0 (by kernel_rfl) ?_
      simp [Tryz.f45]
      refine W.seqE hT mixed M0 (by kernel_rfl) ?_
      simp [Tryz.f45, hcut]
      generalize p6n l = N at *
      generalize p6s l = sh at *
      generalize fieldsL (p6l l) = A at *
      generalize fieldsL (p6r l) = B at *
      generalize p6l l = ll at *
      generalize p6r l = rl at *
      refine W.seqE hT mixed M0 (by kernel_rfl) ?_
      simp [Tryz.f45, hfl, hfr]
      refine W.cut True [(2, .ptr 0 0), (3, .ptr 1 0), (6, .bool sh), (7, .rd 1 (uRows A)), (8, .rd 1 (uRows B))] [.box 24 [.int .u64 0, .int .u64 0], .box 24 (adC A)] 59 ?_ ?_
      · refine W.seqE hT mixed M0 (by kernel_rfl) ?_
        simp
        refine W.block (W.for (fun _ => True) (fun k => [(2, .ptr 0 0), (3, .ptr 1 0), (6, .bool sh), (7, .rd 1 (uRows A)), (8, .rd 1 (uRows B)), (24, .rd 1 (uRows A)), (25, .int .i64 A.length), (26, .int .i64 k)]) (fun k => [.box 24 [.int .u64 0, .int .u64 0], .box 24 (adC (A.take k))]) 59 A.length trivial ?_ ?_)
        · simp [adC, acc]
        · intro k hk _
          by_cases hlt : k < A.length
          · have hw1 : IntKind.i64.wrap ((k : Int) + 1) = k + 1 := wr_i64 (by omega) (by omega)
            have hac := acc_lt (L := A.take k) (fun x hx => hA x (List.mem_of_mem_take hx))
            have hp := put_at hac.1 hac.2 (hA A[k] (List.getElem_mem hlt))
            rw [← acc_snoc, ← take_snoc_nat A k hlt] at hp
            have hge : (uRows A)[k]'(by simpa using hlt) = [.int .u64 ((A[k] : Nat) : Int)] := uRows_getElem _ _ _
            refine W.of_WE hT mixed M0 _ (by kernel_rfl) ?_
            simp [hlt, hge, hp, hw1, adC]
          · have : k = A.length := by omega
            subst this
            refine W.of_WE hT mixed M0 _ (by kernel_rfl) ?_
            simp
      intro _
      have hN8 : N ≤ 8 := by rw [hnn]; split <;> omega
      have e0 : ∀ k, acc (A ++ List.replicate (k + 1) 0) = putN (acc (A ++ List.replicate k 0)) 0 := fun k => by rw [List.replicate_succ', ← List.append_assoc, acc_snoc]
      have hR : ∀ k, ∀ x ∈ A ++ List.replicate k 0, x < 65536 := fun k x hx => by
        rcases List.mem_append.1 hx with hx | hx
        · exact hA x hx
        · have := (List.mem_replicate.1 hx).2; omega
      refine W.cut True [(2, .ptr 0 0), (3, .ptr 1 0), (8, .rd 1 (uRows B))] [.box 24 [.int .u64 0, .int .u64 0], .box 24 (adC (A ++ List.replicate N 0))] 59 ?_ ?_
      · refine W.seqE hT mixed M0 (by kernel_rfl) ?_
        simp
        have hw0 : IntKind.i64.wrap ((A.length : Int) + B.length) = (A.length + B.length : Nat) := by rw [wr_i64 (by omega) (by omega)]; push_cast; rfl
        refine W.block (W.for (fun _ => True) (fun k => [(2, .ptr 0 0), (3, .ptr 1 0), (6, .bool sh), (8, .rd 1 (uRows B)), (11, .int .i64 (A.length + B.length + k : Nat))]) (fun k => [.box 24 [.int .u64 0, .int .u64 0], .box 24 (adC (A ++ List.replicate k 0))]) 59 N trivial ?_ ?_)
        · simp [hw0]
        · intro k hk _
          have hac := acc_lt (hR k)
          have hp := put_at hac.1 hac.2 (x := 0) (by decide)
          rw [← e0 k, show ((0 : Nat) : Int) = 0 from rfl] at hp
          have hw1 : IntKind.i64.wrap (((A.length + B.length + k : Nat) : Int) + 1) = (A.length + B.length + (k + 1) : Nat) := by rw [wr_i64 (by omega) (by omega)]; push_cast; omega
          refine W.of_WE hT mixed M0 _ (by kernel_rfl) ?_
          cases sh with
          | false =>
            simp at hnn
            have : k = N := by omega
            subst this
            simp
          | true =>
            simp at hnn
            by_cases hlt : k < N
            · have h8 : ((A.length + B.length + k : Nat) : Int) < 8 := by omega
              simp only [adC]
              generalize ((A.length + B.length + k : Nat) : Int) = I0 at *
              generalize ((A.length + B.length + (k + 1) : Nat) : Int) = I1 at *
              simp [hlt, h8, hp, hw1]
            · have : k = N := by omega
              subst this
              have h8 : ¬ ((A.length + B.length + k : Nat) : Int) < 8 := by omega
              generalize ((A.length + B.length + k : Nat) : Int) = I0 at *
              simp [h8]
      intro _
      have hL := hR N
      generalize hZ : A ++ List.replicate N 0 = Z at *
      have hS : ∀ k, ∀ x ∈ Z ++ B.take k, x < 65536 := fun k x hx => by
        rcases List.mem_append.1 hx with hx | hx
        · exact hL x hx
        · exact hB x (List.mem_of_mem_take hx)
      refine W.cut True [(2, .ptr 0 0), (3, .ptr 1 0)] [.box 24 [.int .u64 0, .int .u64 0], .box 24 (adC (Z ++ B))] 59 ?_ ?_
      · refine W.seqE hT mixed M0 (by kernel_rfl) ?_
        simp
        refine W.block (W.for (fun _ => True) (fun k => [(2, .ptr 0 0), (3, .ptr 1 0), (48, .rd 1 (uRows B)), (49, .int .i64 B.length), (50, .int .i64 k)]) (fun k => [.box 24 [.int .u64 0, .int .u64 0], .box 24 (adC (Z ++ B.take k))]) 59 B.length trivial ?_ ?_)
        · simp
        · intro k hk _
          by_cases hlt : k < B.length
          · have hw1 : IntKind.i64.wrap ((k : Int) + 1) = k + 1 := wr_i64 (by omega) (by omega)
            have hac := acc_lt (hS k)
            have hp := put_at hac.1 hac.2 (hB B[k] (List.getElem_mem hlt))
            rw [← acc_snoc, List.append_assoc, ← take_snoc_nat B k hlt] at hp
            have hge : (uRows B)[k]'(by simpa using hlt) = [.int .u64 ((B[k] : Nat) : Int)] := uRows_getElem _ _ _
            refine W.of_WE hT mixed M0 _ (by kernel_rfl) ?_
            simp [hlt, hge, hp, hw1, adC]
          · have : k = B.length := by omega
            subst this
            refine W.of_WE hT mixed M0 _ (by kernel_rfl) ?_
            simp
      intro _
      refine W.of_WE hT mixed M0 _ (by kernel_rfl) ?_
      simp [adC]
      rw [← hZ, List.append_assoc]
      exact ⟨rfl, rfl⟩
    · cases hh
  · cases hh
/-! Four bytes. -/
def acc4 (L : List (List UInt8)) : Nat := L.foldl st4 0
theorem acc4_snoc (L : List (List UInt8)) (x : List UInt8) : acc4 (L ++ [x]) = st4 (acc4 L) x := by simp [acc4]
theorem acc4_lt (L : List (List UInt8)) : acc4 L < 4294967296 := foldl_bd L 0 (by decide)
def SP4 : List V → Option Res
  | [.str s] => if s.size < 100000 then some ⟨.agg [.int .u64 0, .int .u64 (parse4L s.data.toList : Int)], []⟩ else none
  | _ => none
theorem p4_at {l : List UInt8} (h : l.length < 100000) : SP4 [.str (bs l)] = some ⟨.agg [.int .u64 0, .int .u64 (parse4L l : Int)], []⟩ := by
  simp only [SP4, bs_size, bs_data]
  rw [if_pos h]
theorem runs_parse4 : ∀ args r, SP4 args = some r → Runs Tryz.prog 43 args r := by
  intro args r hh
  unfold SP4 at hh
  split at hh
  · rename_i s0
    obtain ⟨l, rfl⟩ := bs_ex s0
    rw [bs_size, bs_data] at hh
    have hT : ((T0.add 69 SSpQ).add 41 SPu).ok Tryz.prog := Tab.add_ok (Tab.add_ok (T0_ok _) runs_SplitSeq) runs_Pu
    split at hh
    · rename_i hlen
      cases hh
      refine Runs.of_body Tryz.func43 (by decide) rfl (by simp [Tryz.f43]) ?_
      have hq := spq_at l 46
      refine W.seqE hT mixed M0 (by kernel_rfl) ?_
      simp [Tryz.f43]
      refine W.seqE hT mixed M0 (by kernel_rfl) ?_
      simp [Tryz.f43]
      refine W.seq (W.cut True [(2, .ptr 0 0), (3, .ptr 1 0), (8, .fn 105 [] [.ptr 3 0, .ptr 2 0, .ptr 4 0])] [.box 24 [.int .u64 0, .int .u64 0], .box 24 [.int .u64 0, .int .u64 0], .box 9 [.str (bs l)], .box 9 [.str ⟨#[46]⟩], .box 3 [.int .i64 0]] 23 ?_ ?_)
      · refine W.of_WE hT mixed M0 _ (by kernel_rfl) ?_
        simp [Tryz.f43, hq]
        refine ⟨[0, 8, 24, 25, 26], ?_⟩
        simp [wkOkx, tmOk, dfOk, hpOk]
      intro _
      refine W.block (W.rangeFunc' (n := 5) (by simp) (gf := 105) (fi := []) (caps := [.ptr 3 0, .ptr 2 0, .ptr 4 0]) (by simp) (by simp) Tryz.func105 (by decide) rfl ?_)
      intro fn Lp hLp
      refine spl1_ok ⟨6, 3, 2, 4, [46], l, rfl, by simp; rfl, by simp, by simp, by simp, by simp, by simp, by decide, by decide, by simp, by decide, by omega, fun k u => u.hp 1 = some (.box 24 [.int .u64 0, .int .u64 (acc4 ((pcs [46] l).take k) : Int)]) ∧ u.hp 0 = some (.box 24 [.int .u64 0, .int .u64 0]) ∧ u.hp 6 = some (Lp .ready none) ∧ u.hp 5 = some (.obj (.deferred (some []))) ∧ 7 ≤ u.nx, ?_, ?_, ?_⟩
      · simp [acc4]
      · intro k p s0 s' hp hI hbut
        obtain ⟨hb1, hb0, hb6, hb5, hn7⟩ := hI
        obtain ⟨hbn, hbo⟩ := hbut
        have e6 : s'.hp 6 = some (Lp .ready none) := by rw [hbo 6 (by omega) (by decide)]; exact hb6
        have e5 : s'.hp 5 = some (.obj (.deferred (some []))) := by rw [hbo 5 (by omega) (by decide)]; exact hb5
        have e0 : s'.hp 0 = some (.box 24 [.int .u64 0, .int .u64 0]) := by rw [hbo 0 (by omega) (by decide)]; exact hb0
        have e1 : s'.hp 1 = some (.box 24 [.int .u64 0, .int .u64 (acc4 ((pcs [46] l).take k) : Int)]) := by rw [hbo 1 (by omega) (by decide)]; exact hb1
        have htk : acc4 ((pcs [46] l).take (k + 1)) = (acc4 ((pcs [46] l).take k) * 256 + pv 10 255 p) % 4294967296 := by
          rw [List.take_add_one, hp]; simp only [Option.toList]; rw [acc4_snoc]; rfl
        have hpl : p.length ≤ 1000000 := by
          rw [pcs_spl] at hp
          have := spl_part 46 l p (List.mem_of_getElem? hp)
          omega
        have hpu := pu_at (l := p) (b := 10) (w := 8) (c := 10) (M := 255) rfl (by omega)
        have herr := errP_or (pu 10 255 p)
        have hst := st4_eq (acc4_lt ((pcs [46] l).take k)) (show pv 10 255 p < 256 by have := pv_le (b := 10) (M := 255) p; omega)
        rw [← htk] at hst
        simp only [htk]
        rw [htk] at hst
        generalize errP (pu 10 255 p) = EV at hpu herr
        refine CallY.of_loop' hLp e6 rfl (by simp) ?_
        refine W.of_WE hT mixed M0 _ (by kernel_rfl) ?_
        have z6 := fresh_ne (show 6 < s'.nx by omega)
        have z5 := fresh_ne (show 5 < s'.nx by omega)
        have z0 := fresh_ne (show 0 < s'.nx by omega)
        have z4 := fresh_ne (show 4 < s'.nx by omega)
        have z1 := fresh_ne (show 1 < s'.nx by omega)
        have z2 := fresh_ne (show 2 < s'.nx by omega)
        have z3 := fresh_ne (show 3 < s'.nx by omega)
        simp [e6, z6]
        refine W.of_WE hT mixed M0 _ (by kernel_rfl) ?_
        rcases herr with rfl | rfl
        all_goals
          simp [e6, e5, e0, e1, z6, z5, z4, z0, z1, z2, z3, hpu, hst]
          omega
      · intro s0 s' hI hbut
        obtain ⟨hb1, hb0, hb6, hb5, hn7⟩ := hI
        obtain ⟨hbn, hbo⟩ := hbut
        have e6 : s'.hp 6 = some (Lp .ready none) := by rw [hbo 6 (by omega) (by decide)]; exact hb6
        have e5 : s'.hp 5 = some (.obj (.deferred (some []))) := by rw [hbo 5 (by omega) (by decide)]; exact hb5
        have e0 : s'.hp 0 = some (.box 24 [.int .u64 0, .int .u64 0]) := by rw [hbo 0 (by omega) (by decide)]; exact hb0
        have e1 : s'.hp 1 = some (.box 24 [.int .u64 0, .int .u64 (parse4L l : Int)]) := by
          rw [hbo 1 (by omega) (by decide), hb1, List.take_length, pcs_spl]; rfl
        refine ⟨.ready, none, e6, by simp, ?_⟩
        show W _ _ _ _
        refine W.of_WE hT mixed M0 _ (by kernel_rfl) ?_
        simp [e0, e5, e1]
    · cases hh
  · cases hh

end Go.Proofs.YtbnjijffkjcmcaaGreatDoor.AL
namespace Go.Proofs.YtbnjijffkjcmcaaGreatDoor.AL
open Go
attribute [local simp] qf cv qbin ibin sbin qun retPost rvOk ctV ctPost marksOk retV resAll resOf V.lt ltL V.ren renL V.exp V.exp1 cleanL V.clean closedL V.closed V.cells V.one V.tree
  loadV cellsAt isNC nilQ isSlD isIfD slNew ownRows ownCells V.isOwn slStore srcO qlook mlook mget mstr zval qnone qmake mput lmap isAggD placesOf fillV putCells lstore bound seqParts V.sh shL Blk.sh newV V.ok peqs peq srcRows qbytes byteSl appOk mmV mmR hidE V.fz fzL Blk.fz fzOk and_assoc
attribute [-simp] Int.not_le Int.not_lt Nat.not_le Nat.not_lt
/-! Groups in hexadecimal with colons; the string of an address of 128 bits. -/
def uOf : List V → Option Nat
  | [.int .u64 x] => if 0 ≤ x then some x.toNat else none
  | _ => none
theorem uOf_eq (r : List V) (n : Nat) (h : uOf r = some n) : r = [.int .u64 (n : Int)] := by
  unfold uOf at h
  split at h
  · split at h
    · cases h
      rename_i x hx
      rw [Int.toNat_of_nonneg hx]
    · cases h
  · cases h
theorem uRows_parse (L : List Nat) : parseRows uOf (uRows L) = some L := parse_map (row := fun x : Nat => [V.int .u64 (x : Int)]) (fun n => by simp [uOf]) L
noncomputable def SJnd : List V → Option Res
  | [.rd 1 rows] => match parseRows uOf rows with
    | some L => ifC ((∀ x ∈ L, x < 65536) ∧ L.length ≤ 8) (some ⟨.str (bs (hj L)), []⟩)
    | none => none
  | _ => none
theorem jnd_at {L : List Nat} (h : ∀ x ∈ L, x < 65536) (hl : L.length ≤ 8) : SJnd [.rd 1 (uRows L)] = some ⟨.str (bs (hj L)), []⟩ := by
  simp only [SJnd, uRows_parse]
  rw [ifC_pos ⟨h, hl⟩]
def jRows (L : List Nat) (k : Nat) : List (List V) := bRows ((L.take k).map (dgs 16))
theorem jRows_zero (L : List Nat) : jRows L 0 = [] := by simp [jRows, bRows]
theorem jRows_all (L : List Nat) : jRows L L.length = bRows (L.map (dgs 16)) := by simp [jRows]
theorem jRows_len {L : List Nat} {k : Nat} (h : k ≤ L.length) : (jRows L k).length = k := by simp [jRows, bRows]; omega
theorem jRows_snoc (L : List Nat) (k : Nat) (h : k < L.length) : jRows L k ++ [[.str (bs (dgs 16 L[k]))]] = jRows L (k + 1) := by
  unfold jRows
  rw [List.take_succ_eq_append_getElem h, List.map_append]
  unfold bRows
  rw [List.map_append]
  rfl
theorem runs_joined : ∀ args r, SJnd args = some r → Runs Tryz.prog 58 args r := by
  intro args r hh
  unfold SJnd ifC at hh
  split at hh
  · rename_i rows
    split at hh
    · rename_i L hL
      split at hh
      · rename_i hin
        obtain ⟨hx, hl8⟩ := hin
        have h1 : rows = uRows L := parse_eq uOf_eq hL
        subst h1
        cases hh
        have hjl := hj_len L hx
        have hj : SJoin [.rd 1 (bRows (L.map (dgs 16))), .str ⟨#[58]⟩] = some ⟨.str (bs (hj L)), []⟩ := join_at (sep := [58]) (by unfold hj at hjl; omega) (by simp; omega)
        have hT : ((T0.add 32 SFu).add 33 SJoin).ok Tryz.prog := Tab.add_ok (Tab.add_ok (T0_ok _) runs_Fu) runs_Join
        generalize AL.hj L = J at *
        refine Runs.of_body Tryz.func58 (by decide) rfl (by simp [Tryz.f58]) ?_
        refine W.seqE hT mixed M0 (by kernel_rfl) ?_
        simp [Tryz.f58]
        refine W.seqE hT mixed M0 (by kernel_rfl) ?_
        simp
        refine W.wk (Wk.adopt 3 1 9 (by omega) (by simp)) ?_
        refine W.cut True [(3, .own 0)] [.sl 1 9 (bRows (L.map (dgs 16)))] 20 ?_ ?_
        · refine W.seqE hT mixed M0 (by kernel_rfl) ?_
          simp
          refine W.block (W.for (fun _ => True) (fun k => [(3, .own 0), (6, .rd 1 (uRows L)), (7, .int .i64 L.length), (8, .int .i64 k)]) (fun k => [.sl 1 9 (jRows L k)]) 20 L.length trivial ?_ ?_)
          · simp [jRows_zero]
          · intro k hk _
            by_cases hlt : k < L.length
            · have hw1 : IntKind.i64.wrap ((k : Int) + 1) = k + 1 := wr_i64 (by omega) (by omega)
              have hf := fu_at (x := L[k]) (b := 16) (by have := hx _ (List.getElem_mem hlt); omega) (.inr rfl)
              have hsn := jRows_snoc L k hlt
              have hln := jRows_len (L := L) (k := k) (by omega)
              have hge : (uRows L)[k]'(by simpa using hlt) = [.int .u64 ((L[k] : Nat) : Int)] := uRows_getElem _ _ _
              rw [show ((16 : Nat) : Int) = 16 from rfl] at hf
              refine W.of_WE hT mixed M0 _ (by kernel_rfl) ?_
              simp [hlt, hge, hf, hw1]
              exact ⟨by omega, by omega, hsn⟩
            · have : k = L.length := by omega
              subst this
              refine W.of_WE hT mixed M0 _ (by kernel_rfl) ?_
              simp [jRows_all]
        intro _
        refine W.wk (Wk.freeze 0 (.sl 1 9 (bRows (L.map (dgs 16)))) (by simp) (by simp)) ?_
        refine W.of_WE hT mixed M0 _ (by kernel_rfl) ?_
        simp [hj]
      · cases hh
    · cases hh
  · cases hh
theorem grp_eq {x : Nat} {i : Nat} (hx : x < 18446744073709551616) (hi : i < 4) : grp (x : Int) i = (grpN x i : Int) := by
  unfold grp grpN
  have hp : (48 - 16 * (i : Int)) = ((48 - 16 * i : Nat) : Int) := by omega
  rw [hp, bShr_nat (by omega)]
  have e : ((x : Int) / 2 ^ (48 - 16 * i)) = ((x / 2 ^ (48 - 16 * i) : Nat) : Int) := by
    rw [Int.natCast_ediv, Int.natCast_pow]; rfl
  rw [e]
  have hlt : x / 2 ^ (48 - 16 * i) < 18446744073709551616 := Nat.lt_of_le_of_lt (Nat.div_le_self _ _) hx
  generalize x / 2 ^ (48 - 16 * i) = y at *
  rw [bAnd_u64' (by omega) (by omega) (by omega) (by omega)]
  have : (y : Int).toNat &&& (65535 : Int).toNat = y % 65536 := Nat.and_two_pow_sub_one_eq_mod y 16
  rw [this]
def gCells (L : List Nat) : List V := L.map fun x : Nat => .int .u64 (x : Int)
theorem grps_eq {h l : Nat} (hh : h < 18446744073709551616) (hl : l < 18446744073709551616) : grps (h : Int) (l : Int) = gCells (G8 h l) := by
  unfold grps gCells G8
  rw [grp_eq hh (by omega), grp_eq hh (by omega), grp_eq hh (by omega), grp_eq hh (by omega), grp_eq hl (by omega), grp_eq hl (by omega), grp_eq hl (by omega), grp_eq hl (by omega)]
  rfl
theorem zrun_nat : ∀ L : List Nat, zrun (L.map fun x : Nat => (x : Int)) = zrN L
  | [] => rfl
  | x :: L => by
    simp only [List.map_cons, zrun, zrN, zrun_nat L]
    by_cases h : x = 0
    · simp [h]
    · rw [if_neg h, if_neg (by omega)]
theorem run_at {L : List Nat} (h : L.length = 8) {i : Nat} (hi : i ≤ 8) : SRun [.int .i64 (i : Int), .rptr (gCells L) 0] = some ⟨.int .i64 (zrN (L.drop i) : Int), []⟩ := by
  match L, h with
  | [a, b, c, d, e, f, g, k], _ =>
    simp only [gCells, List.map_cons, List.map_nil, SRun]
    rw [if_pos ⟨by omega, by omega⟩]
    rw [← zrun_nat, List.map_drop]
    rfl
theorem chunk_g : ∀ (L : List Nat), chunkV 1 L.length (gCells L) = uRows L
  | [] => rfl
  | x :: L => by
    have := chunk_g L
    simp only [gCells] at this
    simp [gCells, uRows, chunkV, this]
noncomputable def SText6 : List V → Option Res
  | [.agg [.int .u64 h, .int .u64 l]] => ifC (0 ≤ h ∧ h < 18446744073709551616 ∧ 0 ≤ l ∧ l < 18446744073709551616) (some ⟨.str (bs (text6L (G8 h.toNat l.toNat))), []⟩)
  | _ => none
def M_f31 : Md := fun i => if i = 13 then some #[0, 1, 3, 7, 0, 0, 48, 112, 247, 511, 1023] else some #[]
@[simp] theorem M_f31_eq {i : Nat} : M_f31 i = (if i = 13 then some #[0, 1, 3, 7, 0, 0, 48, 112, 247, 511, 1023] else some #[]) := rfl
theorem runs_text6 : ∀ args r, SText6 args = some r → Runs Tryz.prog 31 args r := by
  intro args r hh
  unfold SText6 ifC at hh
  split at hh
  · rename_i h0 l0
    split at hh
    · rename_i hin
      obtain ⟨a1, a2, a3, a4⟩ := hin
      obtain ⟨h, rfl⟩ := Int.eq_ofNat_of_zero_le a1
      obtain ⟨l, rfl⟩ := Int.eq_ofNat_of_zero_le a3
      cases hh
      change Runs _ _ [.agg [.int .u64 (h : Int), .int .u64 (l : Int)]] ⟨.str (bs (text6L (G8 h l))), []⟩
      have hg : SGrps [.agg [.int .u64 (h : Int), .int .u64 (l : Int)]] = some ⟨.agg (gCells (G8 h l)), []⟩ := by
        simp only [SGrps]; rw [grps_eq (by omega) (by omega)]
      have hlt := G8_lt h l
      have hlen : (G8 h l).length = 8 := rfl
      have hgc : gCells (G8 h l) = [.int .u64 (grpN h 0 : Int), .int .u64 (grpN h 1 : Int), .int .u64 (grpN h 2 : Int), .int .u64 (grpN h 3 : Int), .int .u64 (grpN l 0 : Int), .int .u64 (grpN l 1 : Int), .int .u64 (grpN l 2 : Int), .int .u64 (grpN l 3 : Int)] := rfl
      have hT : (((T0.add 56 SGrps).add 57 SRun).add 58 SJnd).ok Tryz.prog := Tab.add_ok (Tab.add_ok (Tab.add_ok (T0_ok _) runs_groups) runs_run) runs_joined
      refine Runs.of_body Tryz.func31 (by decide) rfl (by simp [Tryz.f31]) ?_
      refine W.seqE hT mixed M_f31 (by kernel_rfl) ?_
      simp [Tryz.f31]
      refine W.cut True [(3, .ptr 0 0)] [.box 100 (gCells (G8 h l))] 38 ?_ ?_
      · refine W.of_WE hT mixed M_f31 _ (by kernel_rfl) ?_
        rw [hgc] at hg ⊢
        simp [hg]
      intro _
      refine W.wk (Wk.freeze 0 (.box 100 (gCells (G8 h l))) (by simp) (by rw [hgc]; simp)) ?_
      obtain ⟨L, hG⟩ : ∃ L, L = G8 h l := ⟨_, rfl⟩
      rw [← hG] at hlt hlen ⊢
      have hl8 : (gCells L).length = 8 := by simp [gCells, hlen]
      have hck : chunkV 1 8 (gCells L) = uRows L := by rw [← hlen]; exact chunk_g L
      refine W.seqE hT mixed M_f31 (by kernel_rfl) ?_
      simp
      refine W.seqE hT mixed M_f31 (by kernel_rfl) ?_
      simp
      have hb8 := fun k => lrun_le (L := L) hlen k
      refine W.cut True [(3, .rptr (gCells L) 0), (4, .int .i64 ((lrun L 8).1 : Int)), (5, .int .i64 ((lrun L 8).2 : Int))] [] 38 ?_ ?_
      · refine W.seqE hT mixed M_f31 (by kernel_rfl) ?_
        simp
        refine W.block (W.for (fun _ => True) (fun k => [(3, .rptr (gCells L) 0), (4, .int .i64 ((lrun L k).1 : Int)), (5, .int .i64 ((lrun L k).2 : Int)), (6, .fn 57 [] [.rptr (gCells L) 0]), (12, .int .i64 k)]) (fun _ => []) 38 8 trivial ?_ ?_)
        · simp [lrun]
        · intro k hk _
          have hw1 : IntKind.i64.wrap ((k : Int) + 1) = k + 1 := wr_i64 (by omega) (by omega)
          refine W.of_WE hT mixed M_f31 _ (by kernel_rfl) ?_
          by_cases hlt8 : k < 8
          · have hrun := run_at hlen (i := k) (by omega)
            have hlt' : (k : Int) < 8 := by omega
            have hst : lrun L (k + 1) = if (lrun L k).2 < zrN (L.drop k) then (k, zrN (L.drop k)) else lrun L k := rfl
            by_cases hm : (lrun L k).2 < zrN (L.drop k)
            · rw [if_pos hm] at hst
              have hm' : ((lrun L k).2 : Int) < (zrN (L.drop k) : Int) := by omega
              simp [hlt8, hlt', hrun, hw1, hst, hm, hm']
            · rw [if_neg hm] at hst
              have hm' : ¬ ((lrun L k).2 : Int) < (zrN (L.drop k) : Int) := by omega
              simp [hlt8, hlt', hrun, hw1, hst, hm, hm']
          · have : k = 8 := by omega
            subst this
            simp
      intro _
      have hb := hb8 8 (by omega)
      have htx : text6L L = if (lrun L 8).2 < 2 then hj L else hj (L.take (lrun L 8).1) ++ 58 :: 58 :: hj (L.drop ((lrun L 8).1 + (lrun L 8).2)) := rfl
      rw [htx]
      clear htx
      generalize (lrun L 8).1 = at' at *
      generalize (lrun L 8).2 = n at *
      have hj0 := jnd_at hlt (by omega)
      have hj1 := jnd_at (L := L.take at') (fun x hx => hlt x (List.mem_of_mem_take hx)) (by simp; omega)
      have hj2 := jnd_at (L := L.drop (at' + n)) (fun x hx => hlt x (List.mem_of_mem_drop hx)) (by simp; omega)
      have hl0 := hj_len L hlt
      have hl1 := hj_len (L.take at') (fun x hx => hlt x (List.mem_of_mem_take hx))
      have hl2 := hj_len (L.drop (at' + n)) (fun x hx => hlt x (List.mem_of_mem_drop hx))
      by_cases hn : n < 2
      · have hn' : (n : Int) < 2 := by omega
        rw [if_pos hn]
        generalize AL.hj L = J at *
        refine W.of_WE hT mixed M_f31 _ (by kernel_rfl) ?_
        simp [hn', hck, hl8, hj0]
        decide
      · have hn' : ¬ (n : Int) < 2 := by omega
        rw [if_neg hn]
        generalize AL.hj (L.take at') = J1 at *
        generalize AL.hj (L.drop (at' + n)) = J2 at *
        have hw2 : IntKind.i64.wrap ((at' : Int) + n) = at' + n := wr_i64 (by omega) (by omega)
        have hw3 : ((at' : Int) + n).toNat = at' + n := by omega
        have ht1 : List.take at' (uRows L) = uRows (List.take at' L) := by simp [uRows, List.map_take]
        have ht2 : List.drop (at' + n) (uRows L) = uRows (List.drop (at' + n) L) := by simp [uRows, List.map_drop]
        have ht3 : List.take (8 - (at' + n)) (uRows (List.drop (at' + n) L)) = uRows (List.drop (at' + n) L) := List.take_of_length_le (by simp; omega)
        have hmx : 8 ≤ maxLen := by decide
        have ha8 : (at' : Int) ≤ 8 := by omega
        have ha9 : (at' : Int) + n ≤ 8 := by omega
        have ha0 : (0 : Int) ≤ (at' : Int) + n := by omega
        have hc1 : bs J1 ++ ⟨#[58, 58]⟩ = bs (J1 ++ [58, 58]) := bs_append J1 [58, 58]
        have hc2 : bs (J1 ++ [58, 58]) ++ bs J2 = bs (J1 ++ 58 :: 58 :: J2) := by rw [bs_append]; simp
        have hz : (⟨#[58, 58]⟩ : ByteArray).size = 2 := rfl
        have hz1 : ((bs J1).size : Int) + 2 ≤ 9223372036854775807 := by rw [bs_size]; simp at hl1; omega
        have hz2 : ((bs (J1 ++ [58, 58])).size : Int) + (bs J2).size ≤ 9223372036854775807 := by rw [bs_size, bs_size]; simp at hl1 hl2 ⊢; omega
        refine W.of_WE hT mixed M_f31 _ (by kernel_rfl) ?_
        simp [hn', hck, hl8, hw2, hw3, ht1, ht2, ht3, hj1, hj2, hmx, ha8, ha9, ha0, hc1, hc2, hz, hz1, hz2]
    · cases hh
  · cases hh

end Go.Proofs.YtbnjijffkjcmcaaGreatDoor.AL
namespace Go.Proofs.YtbnjijffkjcmcaaGreatDoor.AL
open Go
attribute [local simp] qf cv qbin ibin sbin qun retPost rvOk ctV ctPost marksOk retV resAll resOf V.lt ltL V.ren renL V.exp V.exp1 cleanL V.clean closedL V.closed V.cells V.one V.tree
  loadV cellsAt isNC nilQ isSlD isIfD slNew ownRows ownCells V.isOwn slStore srcO qlook mlook mget mstr zval qnone qmake mput lmap isAggD placesOf fillV putCells lstore bound seqParts V.sh shL Blk.sh newV V.ok peqs peq srcRows qbytes byteSl appOk mmV mmR hidE V.fz fzL Blk.fz fzOk and_assoc
attribute [-simp] Int.not_le Int.not_lt Nat.not_le Nat.not_lt
/-! The string of an address. -/
theorem by4_eq {l i : Nat} (hl : l < 18446744073709551616) (hi : i < 4) : bAnd .u64 (bShr .u64 (l : Int) (24 - 8 * (i : Int))) 255 = (b4 l i : Int) := by
  unfold b4
  have hp : (24 - 8 * (i : Int)) = ((24 - 8 * i : Nat) : Int) := by omega
  rw [hp, bShr_nat (by omega)]
  have e : ((l : Int) / 2 ^ (24 - 8 * i)) = ((l / 2 ^ (24 - 8 * i) : Nat) : Int) := by
    rw [Int.natCast_ediv, Int.natCast_pow]; rfl
  rw [e]
  have hlt : l / 2 ^ (24 - 8 * i) < 18446744073709551616 := Nat.lt_of_le_of_lt (Nat.div_le_self _ _) hl
  generalize l / 2 ^ (24 - 8 * i) = y at *
  rw [bAnd_u64' (by omega) (by omega) (by omega) (by omega)]
  have : (y : Int).toNat &&& (255 : Int).toNat = y % 256 := Nat.and_two_pow_sub_one_eq_mod y 8
  rw [this]
def kRows (l k : Nat) : List (List V) := bRows ((List.range k).map fun i => dgs 10 (b4 l i))
theorem kRows_zero (l : Nat) : kRows l 0 = [] := rfl
theorem kRows_len (l k : Nat) : (kRows l k).length = k := by simp [kRows, bRows]
theorem kRows_snoc (l k : Nat) : kRows l k ++ [[.str (bs (dgs 10 (b4 l k)))]] = kRows l (k + 1) := by
  unfold kRows
  rw [List.range_succ, List.map_append]
  unfold bRows
  rw [List.map_append]
  rfl
theorem kRows_four (l : Nat) : kRows l 4 = bRows [dgs 10 (b4 l 0), dgs 10 (b4 l 1), dgs 10 (b4 l 2), dgs 10 (b4 l 3)] := rfl
noncomputable def SAddrT : List V → Option Res
  | [.int .u8 f, .agg [.int .u64 h, .int .u64 l]] => ifC ((0 ≤ h ∧ h < 18446744073709551616) ∧ 0 ≤ l ∧ l < 18446744073709551616)
      (some ⟨if cAddr f h l = true then .tup [.str (bs (addrT f.toNat h.toNat l.toNat)), .int .i64 0] else .tup [.str (bs []), .int .i64 2], []⟩)
  | _ => none
theorem addrT_at {f : Int} {h l : Nat} (hh : h < 18446744073709551616) (hl : l < 18446744073709551616) : SAddrT [.int .u8 f, .agg [.int .u64 (h : Int), .int .u64 (l : Int)]] =
    some ⟨if cAddr f h l = true then .tup [.str (bs (addrT f.toNat h l)), .int .i64 0] else .tup [.str (bs []), .int .i64 2], []⟩ := by
  simp only [SAddrT]
  rw [ifC_pos ⟨⟨by omega, by omega⟩, by omega, by omega⟩]
  rfl
theorem cAddr_or {f : Int} {h l : Nat} (hc : cAddr f h l = true) (hh : h < 18446744073709551616) (hl : l < 18446744073709551616) : vA f.toNat h l ∧ (f = 6 ∨ f = 4) := by
  unfold cAddr at hc
  rw [Bool.or_eq_true, Bool.and_eq_true, Bool.and_eq_true, beq_iff_eq, beq_iff_eq, beq_iff_eq, decide_eq_true_eq] at hc
  rcases hc with hc | ⟨⟨hc, h1⟩, h2⟩
  · exact ⟨.inl ⟨by omega, hh, hl⟩, .inl hc⟩
  · exact ⟨.inr ⟨by omega, by omega, by omega⟩, .inr hc⟩
theorem runs_AddrText : ∀ args r, SAddrT args = some r → Runs Tryz.prog 12 args r := by
  intro args r hh
  unfold SAddrT ifC at hh
  split at hh
  · rename_i f h0 l0
    split at hh
    · rename_i hin
      obtain ⟨⟨a1, a2⟩, a3, a4⟩ := hin
      obtain ⟨h, rfl⟩ := Int.eq_ofNat_of_zero_le a1
      obtain ⟨l, rfl⟩ := Int.eq_ofNat_of_zero_le a3
      cases hh
      rw [Int.toNat_natCast, Int.toNat_natCast]
      have hT : ((((T0.add 25 SAddr).add 32 SFu).add 33 SJoin).add 31 SText6).ok Tryz.prog := Tab.add_ok (Tab.add_ok (Tab.add_ok (Tab.add_ok (T0_ok _) runs_number_CheckAddr) runs_Fu) runs_Join) runs_text6
      cases hca : cAddr f h l with
      | false =>
        rw [if_neg (by simp)]
        refine Runs.of_body Tryz.func12 (by decide) rfl (by simp [Tryz.f12]) ?_
        refine W.seqE hT mixed M0 (by kernel_rfl) ?_
        simp [Tryz.f12]
        refine W.cut False [] [] 33 ?_ (fun h => h.elim)
        refine W.of_WE hT mixed M0 _ (by kernel_rfl) ?_
        simp [Tryz.f12, SAddr, hca]
        rfl
      | true =>
        rw [if_pos rfl]
        obtain ⟨hv, hf⟩ := cAddr_or hca (by omega) (by omega)
        rcases hf with rfl | rfl
        · have ht : SText6 [.agg [.int .u64 (h : Int), .int .u64 (l : Int)]] = some ⟨.str (bs (text6L (G8 h l))), []⟩ := by
            simp only [SText6]
            rw [ifC_pos ⟨by omega, by omega, by omega, by omega⟩]
            rfl
          have e : addrT (6 : Int).toNat h l = text6L (G8 h l) := rfl
          rw [e]
          generalize text6L (G8 h l) = TX at *
          refine Runs.of_body Tryz.func12 (by decide) rfl (by simp [Tryz.f12]) ?_
          refine W.seqE hT mixed M0 (by kernel_rfl) ?_
          simp [Tryz.f12]
          refine W.seqE hT mixed M0 (by kernel_rfl) ?_
          simp [Tryz.f12, SAddr, hca]
          refine W.cut False [] [] 33 ?_ (fun h => h.elim)
          refine W.of_WE hT mixed M0 _ (by kernel_rfl) ?_
          simp [Tryz.f12, ht]
        · have h0 : h = 0 ∧ l < 4294967296 := by
            rcases hv with ⟨e, _⟩ | ⟨_, e1, e2⟩
            · exact absurd e (by decide)
            · exact ⟨e1, e2⟩
          obtain ⟨rfl, hl⟩ := h0
          have hca' : cAddr 4 0 (l : Int) = true := hca
          have e : addrT (4 : Int).toNat 0 l = t4 l := rfl
          rw [e]
          have hjl := t4_len l
          have hj : SJoin [.rd 1 (kRows l 4), .str ⟨#[46]⟩] = some ⟨.str (bs (t4 l)), []⟩ := by
            rw [kRows_four]
            exact join_at (sep := [46]) (by unfold t4 at hjl; omega) (by simp)
          generalize t4 l = TX at *
          refine Runs.of_body Tryz.func12 (by decide) rfl (by simp [Tryz.f12]) ?_
          refine W.seqE hT mixed M0 (by kernel_rfl) ?_
          simp [Tryz.f12]
          refine W.seqE hT mixed M0 (by kernel_rfl) ?_
          simp [Tryz.f12, SAddr, hca']
          refine W.seqE hT mixed M0 (by kernel_rfl) ?_
          simp [Tryz.f12]
          refine W.seqE hT mixed M0 (by kernel_rfl) ?_
          simp [Tryz.f12]
          refine W.wk (Wk.adopt 6 1 9 (by omega) (by simp)) ?_
          refine W.cut True [(6, .own 0)] [.sl 1 9 (kRows l 4)] 33 ?_ ?_
          · refine W.seqE hT mixed M0 (by kernel_rfl) ?_
            simp [Tryz.f12]
            refine W.block (W.for (fun k => True) (fun k => [(3, .ptr 0 0), (6, .own 1), (16, .int .i64 k)]) (fun k => [.box 24 [.int .u64 0, .int .u64 (l : Int)], .sl 1 9 (kRows l k)]) 33 4 trivial ?_ ?_)
            · simp [kRows_zero]
            · intro k hk _
              refine W.of_WE hT mixed M0 _ (by kernel_rfl) ?_
              by_cases hlt : k < 4
              · have hlt' : (k : Int) < 4 := by omega
                have hw1 : IntKind.i64.wrap ((k : Int) + 1) = k + 1 := wr_i64 (by omega) (by omega)
                have hw2 : IntKind.i64.wrap (8 * (k : Int)) = 8 * k := wr_i64 (by omega) (by omega)
                have hw3 : IntKind.i64.wrap (24 - 8 * (k : Int)) = 24 - 8 * k := wr_i64 (by omega) (by omega)
                have hp : (0 : Int) ≤ 24 - 8 * (k : Int) := by omega
                have hby := by4_eq (l := l) (by omega) hlt
                have hf := fu_at (x := b4 l k) (b := 10) (by have := b4_lt l k; omega) (.inl rfl)
                rw [show ((10 : Nat) : Int) = 10 from rfl] at hf
                have hsn := kRows_snoc l k
                have hln := kRows_len l k
                simp [hlt, hlt', hw1, hw2, hw3, hp, hby, hf]
                exact ⟨by omega, by omega, by omega, hsn⟩
              · have : k = 4 := by omega
                subst this
                simp
          · intro _
            refine W.wk (Wk.freeze 0 (.sl 1 9 (kRows l 4)) (by simp) (by simp [kRows_four, bRows])) ?_
            refine W.of_WE hT mixed M0 _ (by kernel_rfl) ?_
            simp [Tryz.f12, hj]
    · cases hh
  · cases hh

end Go.Proofs.YtbnjijffkjcmcaaGreatDoor.AL
namespace Go.Proofs.YtbnjijffkjcmcaaGreatDoor.AL
open Go
attribute [local simp] qf cv qbin ibin sbin qun retPost rvOk ctV ctPost marksOk retV resAll resOf V.lt ltL V.ren renL V.exp V.exp1 cleanL V.clean closedL V.closed V.cells V.one V.tree
  loadV cellsAt isNC nilQ isSlD isIfD slNew ownRows ownCells V.isOwn slStore srcO qlook mlook mget mstr zval qnone qmake mput lmap isAggD placesOf fillV putCells lstore bound seqParts V.sh shL Blk.sh newV V.ok peqs peq srcRows qbytes byteSl appOk mmV mmR hidE V.fz fzL Blk.fz fzOk and_assoc
attribute [-simp] Int.not_le Int.not_lt Nat.not_le Nat.not_lt
/-! An address out of a string. -/
def paV : Option (Nat × Nat × Nat) → V
  | some (f, h, l) => .tup [.int .u8 (f : Int), .agg [.int .u64 (h : Int), .int .u64 (l : Int)], .int .i64 0]
  | none => .tup [.int .u8 0, .agg [.int .u64 0, .int .u64 0], .int .i64 12]
noncomputable def SAP : List V → Option Res
  | [.str s] => ifC (s.size < 100000) (some ⟨paV (pa s.data.toList), []⟩)
  | _ => none
theorem ap_at {l : List UInt8} (h : l.length < 100000) : SAP [.str (bs l)] = some ⟨paV (pa l), []⟩ := by
  simp only [SAP, bs_size, bs_data]
  rw [ifC_pos h]
def M_f19 : Md := fun i => if i = 9 then some #[0, 0, 1, 7, 15] else some #[]
@[simp] theorem M_f19_eq {i : Nat} : M_f19 i = (if i = 9 then some #[0, 0, 1, 7, 15] else some #[]) := rfl
theorem runs_AddrParse : ∀ args r, SAP args = some r → Runs Tryz.prog 19 args r := by
  intro args r hh
  unfold SAP ifC at hh
  split at hh
  · rename_i s0
    obtain ⟨l, rfl⟩ := bs_ex s0
    rw [bs_size, bs_data] at hh
    split at hh
    · rename_i hlen
      cases hh
      have hT : ((((T0.add 43 SP4).add 44 SCont).add 45 SP6).add 12 SAddrT).ok Tryz.prog := Tab.add_ok (Tab.add_ok (Tab.add_ok (Tab.add_ok (T0_ok _) runs_parse4) runs_Cont) runs_parse6) runs_AddrText
      have h4 := p4_at hlen
      have h6 := p6_at hlen
      have hct : SCont [.str (bs l), .str ⟨#[58]⟩] = some ⟨.bool (l.contains 58), []⟩ := cont_at
      have b4 := parse4_lt l
      obtain ⟨b6, b6'⟩ := parse6_lt l
      have ht4 := addrT_at (f := 4) (h := 0) (l := parse4L l) (by decide) (by omega)
      have ht6 := addrT_at (f := 6) (h := (parse6L l).1) (l := (parse6L l).2) b6 b6'
      rw [if_pos (by unfold cAddr; simp; omega)] at ht4
      rw [if_pos (by unfold cAddr; simp)] at ht6
      have hpa : pa l = if 50 < l.length then none else if l.contains 58 then (if addrT 6 (parse6L l).1 (parse6L l).2 = l then some (6, (parse6L l).1, (parse6L l).2) else none) else if addrT 4 0 (parse4L l) = l then some (4, 0, parse4L l) else none := rfl
      rw [hpa]
      rw [show (4 : Int).toNat = 4 from rfl, show ((0 : Nat) : Int) = 0 from rfl] at ht4
      rw [show (6 : Int).toNat = 6 from rfl] at ht6
      clear hpa
      generalize l.contains 58 = ct at *
      generalize hX4 : addrT 4 0 (parse4L l) = X4 at *
      generalize hX6 : addrT 6 (parse6L l).1 (parse6L l).2 = X6 at *
      refine Runs.of_body Tryz.func19 (by decide) rfl (by simp [Tryz.f19]) ?_
      by_cases hlong : 50 < l.length
      · have hl' : (50 : Int) < l.length := by omega
        rw [if_pos hlong]
        refine W.seqE hT mixed M_f19 (by kernel_rfl) ?_
        simp [Tryz.f19]
        refine W.cut False [] [] 29 ?_ (fun h => h.elim)
        refine W.of_WE hT mixed M_f19 _ (by kernel_rfl) ?_
        simp [Tryz.f19, bs_size, hl', paV]
      · have hl' : ¬ (50 : Int) < l.length := by omega
        rw [if_neg hlong]
        refine W.seqE hT mixed M_f19 (by kernel_rfl) ?_
        simp [Tryz.f19]
        refine W.seqE hT mixed M_f19 (by kernel_rfl) ?_
        simp [Tryz.f19, bs_size, hl']
        refine W.seqE hT mixed M_f19 (by kernel_rfl) ?_
        simp [Tryz.f19, h4]
        cases ct with
        | false =>
          refine W.of_WE hT mixed M_f19 _ (by kernel_rfl) ?_
          by_cases hx : X4 = l
          · subst hx
            simp [Tryz.f19, hct, ht4, bs_toList, paV]
          · simp [Tryz.f19, hct, ht4, bs_toList, paV, hx]
        | true =>
          refine W.of_WE hT mixed M_f19 _ (by kernel_rfl) ?_
          by_cases hx : X6 = l
          · simp [Tryz.f19, hct, h6, ht6, bs_toList, paV, hx]
          · simp [Tryz.f19, hct, h6, ht6, bs_toList, paV, hx]
    · cases hh
  · cases hh

end Go.Proofs.YtbnjijffkjcmcaaGreatDoor.AL
namespace Go.Proofs.YtbnjijffkjcmcaaGreatDoor.AL
open Go
attribute [local simp] qf cv qbin ibin sbin qun retPost rvOk ctV ctPost marksOk retV resAll resOf V.lt ltL V.ren renL V.exp V.exp1 cleanL V.clean closedL V.closed V.cells V.one V.tree
  loadV cellsAt isNC nilQ isSlD isIfD slNew ownRows ownCells V.isOwn slStore srcO qlook mlook mget mstr zval qnone qmake mput lmap isAggD placesOf fillV putCells lstore bound seqParts V.sh shL Blk.sh newV V.ok peqs peq srcRows qbytes byteSl appOk mmV mmR hidE V.fz fzL Blk.fz fzOk and_assoc
attribute [-simp] Int.not_le Int.not_lt Nat.not_le Nat.not_lt
/-! Strings of prefixes. -/
noncomputable def SChkN : List V → Option Res
  | [.agg [.int .u8 f, .int .u64 h, .int .u64 l, .int .i64 n]] => ifC (inA h l) (some ⟨.int .i64 (chkP f h l n), []⟩)
  | _ => none
theorem runs_ChkN : ∀ args r, SChkN args = some r → Runs Tryz.prog 29 args r := by
  intro args r hh
  unfold SChkN ifC at hh
  split at hh
  · split at hh
    · rename_i h
      cases hh
      exact runs_number_Check _ _ (by simp only [SCheck]; rw [if_pos h])
    · cases hh
  · cases hh
theorem chkN_at {f n : Int} {h l : Nat} (hh : h < 18446744073709551616) (hl : l < 18446744073709551616) : SChkN [.agg [.int .u8 f, .int .u64 (h : Int), .int .u64 (l : Int), .int .i64 n]] = some ⟨.int .i64 (chkP f h l n), []⟩ := by
  simp only [SChkN]
  rw [ifC_pos ⟨by omega, by omega, by omega, by omega⟩]
noncomputable def STx : List V → Option Res
  | [.agg [.int .u8 f, .int .u64 h, .int .u64 l, .int .i64 n]] => ifC (inA h l) (some ⟨if chkP f h l n = 0 then .tup [.str (bs (ppT f.toNat h.toNat l.toNat n.toNat)), .int .i64 0] else .tup [.str (bs []), .int .i64 (chkP f h l n)], []⟩)
  | _ => none
theorem tx_at {f n : Int} {h l : Nat} (hh : h < 18446744073709551616) (hl : l < 18446744073709551616) : STx [.agg [.int .u8 f, .int .u64 (h : Int), .int .u64 (l : Int), .int .i64 n]] =
    some ⟨if chkP f h l n = 0 then .tup [.str (bs (ppT f.toNat h l n.toNat)), .int .i64 0] else .tup [.str (bs []), .int .i64 (chkP f h l n)], []⟩ := by
  simp only [STx]
  rw [ifC_pos ⟨by omega, by omega, by omega, by omega⟩]
  rfl
theorem chk_addr {f n : Int} {h l : Nat} (hc : chkP f h l n = 0) : cAddr f h l = true ∧ ∃ j : Nat, n = j ∧ j ≤ 128 := by
  obtain ⟨j, e, hj, h1, _⟩ := chk_zero hc
  have := widN_le f
  exact ⟨h1, j, e, by omega⟩
def M_f11 : Md := fun i => some #[]
@[simp] theorem M_f11_eq {i : Nat} : M_f11 i = (some #[]) := rfl
theorem runs_number_Text : ∀ args r, STx args = some r → Runs Tryz.prog 11 args r := by
  intro args r hh
  unfold STx ifC at hh
  split at hh
  · rename_i f h0 l0 n
    split at hh
    · rename_i hin
      obtain ⟨a1, a2, a3, a4⟩ := hin
      obtain ⟨h, rfl⟩ := Int.eq_ofNat_of_zero_le a1
      obtain ⟨l, rfl⟩ := Int.eq_ofNat_of_zero_le a3
      cases hh
      rw [Int.toNat_natCast, Int.toNat_natCast]
      have hT : (((T0.add 29 SChkN).add 12 SAddrT).add 30 SIto).ok Tryz.prog := Tab.add_ok (Tab.add_ok (Tab.add_ok (T0_ok _) runs_ChkN) runs_AddrText) runs_Ito
      have hck := chkN_at (f := f) (n := n) (h := h) (l := l) (by omega) (by omega)
      have hat := addrT_at (f := f) (h := h) (l := l) (by omega) (by omega)
      refine Runs.of_body Tryz.func11 (by decide) rfl (by simp [Tryz.f11]) ?_
      by_cases hc : chkP f h l n = 0
      · obtain ⟨hca, j, rfl, hj⟩ := chk_addr hc
        have hit := ito_at (n := j) (by omega)
        have hlen := addrT_len f.toNat h l
        have hdl : (dgs 10 j).length ≤ 3 := dgs_len (by omega) 2 j (by omega) (by omega)
        rw [if_pos hc, Int.toNat_natCast]
        rw [if_pos hca] at hat
        rw [hc] at hck
        have e : ppT f.toNat h l j = addrT f.toNat h l ++ 47 :: dgs 10 j := rfl
        rw [e]
        generalize addrT f.toNat h l = X at *
        generalize dgs 10 j = Y at *
        have hc1 : bs X ++ ⟨#[47]⟩ = bs (X ++ [47]) := bs_append X [47]
        have hc2 : bs (X ++ [47]) ++ bs Y = bs (X ++ 47 :: Y) := by rw [bs_append]; simp
        have hz : (⟨#[47]⟩ : ByteArray).size = 1 := rfl
        have hz1 : ((bs X).size : Int) + 1 ≤ 9223372036854775807 := by rw [bs_size]; omega
        have hz2 : ((bs (X ++ [47])).size : Int) + (bs Y).size ≤ 9223372036854775807 := by rw [bs_size, bs_size]; simp; omega
        refine W.of_WE hT mixed M_f11 _ (by kernel_rfl) ?_
        simp [Tryz.f11, hck, hat, hit, hc1, hc2, hz, hz1, hz2]
      · rw [if_neg hc]
        generalize chkP f h l n = ck at *
        refine W.of_WE hT mixed M_f11 _ (by kernel_rfl) ?_
        simp [Tryz.f11, hck, hc]
        rfl
    · cases hh
  · cases hh
def ppV : Option (Nat × Nat × Nat × Nat) → V
  | some (f, h, l, n) => .tup [.agg [.int .u8 (f : Int), .int .u64 (h : Int), .int .u64 (l : Int), .int .i64 (n : Int)], .int .i64 0]
  | none => .tup [.agg [.int .u8 0, .int .u64 0, .int .u64 0, .int .i64 0], .int .i64 12]
noncomputable def SPf : List V → Option Res
  | [.str s] => ifC (s.size < 100000) (some ⟨ppV (pp s.data.toList), []⟩)
  | _ => none
theorem pf_at {l : List UInt8} (h : l.length < 100000) : SPf [.str (bs l)] = some ⟨ppV (pp l), []⟩ := by
  simp only [SPf, bs_size, bs_data]
  rw [ifC_pos h]
theorem cut_len (c : UInt8) (l : List UInt8) : (Lib.cut l [c]).1.length ≤ l.length ∧ (Lib.cut l [c]).2.1.length ≤ l.length := by
  rw [cut_cutG (by simp)]
  cases h : cutG [c] l with
  | none => simp
  | some p =>
    obtain ⟨a, b⟩ := p
    have := (cutG_len (by simp) h).2
    simp at this ⊢
    omega
theorem pa_lt {s : List UInt8} {f h l : Nat} (e : pa s = some (f, h, l)) : h < 18446744073709551616 ∧ l < 18446744073709551616 ∧ f < 7 := by
  rcases (pa_iff.1 e).1 with ⟨h1, h2, h3⟩ | ⟨h1, h2, h3⟩ <;> omega
def M_f16 : Md := fun i => some #[]
@[simp] theorem M_f16_eq {i : Nat} : M_f16 i = (some #[]) := rfl
theorem runs_number_Parse : ∀ args r, SPf args = some r → Runs Tryz.prog 16 args r := by
  intro args r hh
  unfold SPf ifC at hh
  split at hh
  · rename_i s0
    obtain ⟨s, rfl⟩ := bs_ex s0
    rw [bs_size, bs_data] at hh
    split at hh
    · rename_i hlen
      cases hh
      have hT : ((((T0.add 18 SCutS).add 19 SAP).add 41 SPu).add 11 STx).ok Tryz.prog := Tab.add_ok (Tab.add_ok (Tab.add_ok (Tab.add_ok (T0_ok _) runs_CutS) runs_AddrParse) runs_Pu) runs_number_Text
      have hcl := cut_len 47 s
      have hcut : SCutS [.str (bs s), .str ⟨#[47]⟩] = some ⟨.tup [.str (bs (Lib.cut s [47]).1), .str (bs (Lib.cut s [47]).2.1), .bool (Lib.cut s [47]).2.2], []⟩ := cutS_at (sep := [47]) (by simp) (by omega)
      have hap := ap_at (l := (Lib.cut s [47]).1) (by omega)
      have hpu := pu_at (l := (Lib.cut s [47]).2.1) (b := 10) (w := 8) (c := 10) (M := 255) rfl (by omega)
      have hpp : pp s = match pu 10 255 (Lib.cut s [47]).2.1 with | .ok n => ppX s n (pa (Lib.cut s [47]).1) | _ => none := rfl
      have hpv := pv_le (b := 10) (M := 255) (Lib.cut s [47]).2.1
      have hpve : pv 10 255 (Lib.cut s [47]).2.1 = (pu 10 255 (Lib.cut s [47]).2.1).val 255 := rfl
      have hal := fun f h l => pa_lt (s := (Lib.cut s [47]).1) (f := f) (h := h) (l := l)
      rw [hpp]
      clear hpp
      generalize (Lib.cut s [47]).2.2 = cc at *
      generalize (Lib.cut s [47]).2.1 = cb at *
      generalize (Lib.cut s [47]).1 = ca at *
      generalize pa ca = PA at *
      generalize pv 10 255 cb = N at *
      generalize pu 10 255 cb = PU at *
      have hw1 : IntKind.i64.wrap (N : Int) = N := wr_i64 (by omega) (by omega)
      refine Runs.of_body Tryz.func16 (by decide) rfl (by simp [Tryz.f16]) ?_
      refine W.seqE hT mixed M_f16 (by kernel_rfl) ?_
      simp [Tryz.f16]
      refine W.seqE hT mixed M_f16 (by kernel_rfl) ?_
      simp [Tryz.f16, hcut]
      cases PA with
      | none =>
        have hr : (match PU with | .ok n => ppX s n none | _ => none) = none := by cases PU <;> rfl
        rw [hr]
        have hev := errP_or PU
        generalize errP PU = EV at *
        refine W.of_WE hT mixed M_f16 _ (by kernel_rfl) ?_
        rcases hev with rfl | rfl
        · simp [Tryz.f16, hap, hpu, paV, ppV, hw1]
        · simp [Tryz.f16, hap, hpu, paV, ppV, hw1]
      | some q =>
        obtain ⟨f, h, l⟩ := q
        obtain ⟨hh1, hl1, hf1⟩ := hal f h l rfl
        cases PU with
        | ok n =>
          obtain rfl : N = n := hpve
          have ht := tx_at (f := (f : Int)) (n := (N : Int)) hh1 hl1
          rw [Int.toNat_natCast, Int.toNat_natCast] at ht
          refine W.of_WE hT mixed M_f16 _ (by kernel_rfl) ?_
          by_cases hc : chkP (f : Int) h l N = 0
          · rw [if_pos hc] at ht
            generalize hX : ppT f h l N = X at *
            by_cases hx : X = s
            · have hr : (match PEnd.ok N with | .ok n => ppX s n (some (f, h, l)) | _ => none) = some (f, h, l, N) := by
                show ppX s N (some (f, h, l)) = _
                simp only [ppX]
                rw [if_pos ⟨hc, by rw [hX]; exact hx⟩]
              rw [hr]
              simp [Tryz.f16, hap, hpu, paV, ppV, hw1, errP, PEnd.good, ht, bs_toList, hx]
            · have hr : (match PEnd.ok N with | .ok n => ppX s n (some (f, h, l)) | _ => none) = none := by
                show ppX s N (some (f, h, l)) = _
                simp only [ppX]
                rw [if_neg (fun e => hx (by rw [← hX]; exact e.2))]
              rw [hr]
              simp [Tryz.f16, hap, hpu, paV, ppV, hw1, errP, PEnd.good, ht, bs_toList, hx]
          · have hr : (match PEnd.ok N with | .ok n => ppX s n (some (f, h, l)) | _ => none) = none := by
              show ppX s N (some (f, h, l)) = _
              simp only [ppX]
              rw [if_neg (fun e => hc e.1)]
            rw [hr]
            rw [if_neg hc] at ht
            generalize chkP (f : Int) h l N = ck at *
            simp [Tryz.f16, hap, hpu, paV, ppV, hw1, errP, PEnd.good, ht, bs_toList, hc]
        | synt =>
          refine W.of_WE hT mixed M_f16 _ (by kernel_rfl) ?_
          simp [Tryz.f16, hap, hpu, paV, ppV, hw1, errP, PEnd.good]
        | over =>
          refine W.of_WE hT mixed M_f16 _ (by kernel_rfl) ?_
          simp [Tryz.f16, hap, hpu, paV, ppV, hw1, errP, PEnd.good]
    · cases hh
  · cases hh

end Go.Proofs.YtbnjijffkjcmcaaGreatDoor.AL
namespace Go.Proofs.YtbnjijffkjcmcaaGreatDoor.AL
open Go
attribute [local simp] qf cv qbin ibin sbin qun retPost rvOk ctV ctPost marksOk retV resAll resOf V.lt ltL V.ren renL V.exp V.exp1 cleanL V.clean closedL V.closed V.cells V.one V.tree
  loadV cellsAt isNC nilQ isSlD isIfD slNew ownRows ownCells V.isOwn slStore srcO qlook mlook mget mstr zval qnone qmake mput lmap isAggD placesOf fillV putCells lstore bound seqParts V.sh shL Blk.sh newV V.ok peqs peq srcRows qbytes byteSl appOk mmV mmR hidE V.fz fzL Blk.fz fzOk and_assoc
attribute [-simp] Int.not_le Int.not_lt Nat.not_le Nat.not_lt
/-! Numbers of systems. -/
noncomputable def SAsT : List V → Option Res
  | [.int .u32 a] => ifC (0 ≤ a ∧ a < 4294967296) (some ⟨.str (bs (asT a.toNat)), []⟩)
  | _ => none
theorem ast_at {n : Nat} (h : n < 4294967296) : SAsT [.int .u32 (n : Int)] = some ⟨.str (bs (asT n)), []⟩ := by
  simp only [SAsT]
  rw [ifC_pos ⟨by omega, by omega⟩]
  rfl
def asV : Option Nat → V
  | some n => .tup [.int .u32 (n : Int), .int .i64 0]
  | none => .tup [.int .u32 0, .int .i64 12]
noncomputable def SAsP : List V → Option Res
  | [.str s] => ifC (s.size < 100000) (some ⟨asV (asp s.data.toList), []⟩)
  | _ => none
theorem asp_at {l : List UInt8} (h : l.length < 100000) : SAsP [.str (bs l)] = some ⟨asV (asp l), []⟩ := by
  simp only [SAsP, bs_size, bs_data]
  rw [ifC_pos h]
end Go.Proofs.YtbnjijffkjcmcaaGreatDoor.AL
