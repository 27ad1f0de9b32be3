import Derived.Test.YtbnjijffkjcmcaaDoorZW8
import Derived.Test.YtbnjijffkjcmcaaDoorZAL4
/- What single functions compute: a part of the proof; no conditions. -/
set_option linter.unusedVariables false
set_option linter.unusedSimpArgs false
set_option maxRecDepth 100000
set_option linter.unusedSectionVars false
namespace Go.Proofs.YtbnjijffkjcmcaaDoor.AL
open Go
attribute [local simp] qf cv qbin ibin sbin qun retPost rvOk ctV ctPost marksOk retV resAll resOf V.lt ltL V.ren renL V.exp V.exp1 cleanL V.clean closedL V.closed V.cells V.one V.tree
  loadV cellsAt isNC nilQ isSlD isIfD slNew ownRows ownCells V.isOwn slStore srcO qlook mlook mget mstr zval qnone qmake mput lmap isAggD placesOf fillV putCells lstore bound seqParts V.sh shL Blk.sh newV V.ok peqs peq srcRows qbytes byteSl appOk mmV mmR hidE V.fz fzL Blk.fz fzOk and_assoc
attribute [-simp] Int.not_le Int.not_lt Nat.not_le Nat.not_lt
/-! Fields in hexadecimal. -/
theorem errP_or (e : PEnd) : errP e = .nilif ∨ errP e = .iface 159 .junk := by unfold errP; split; exact .inl rfl; exact .inr rfl
theorem spq_at (l : List UInt8) (c : UInt8) : SSpQ [.str (bs l), .str ⟨#[c]⟩] = some ⟨.fn 118 [] [.ptr 1 0, .ptr 0 0, .ptr 2 0], [.box 9 [.str (bs l)], .box 9 [.str ⟨#[c]⟩], .box 3 [.int .i64 0]]⟩ := rfl
theorem fresh_hi {x n : Nat} (h : x < n) : (x = n + 8 + 8 + 8 + 8 + 8 + 8 + 8 + 8 + 8) = False ∧ (n + 8 + 8 + 8 + 8 + 8 + 8 + 8 + 8 + 8 = x) = False ∧ (x < n + 8 + 8 + 8 + 8 + 8 + 8 + 8 + 8 + 8) = True ∧ (x = n + 8 + 8 + 8 + 8 + 8 + 8 + 8 + 8 + 8 + 8) = False ∧ (n + 8 + 8 + 8 + 8 + 8 + 8 + 8 + 8 + 8 + 8 = x) = False ∧ (x < n + 8 + 8 + 8 + 8 + 8 + 8 + 8 + 8 + 8 + 8) = True ∧ (x = n + 8 + 8 + 8 + 8 + 8 + 8 + 8 + 8 + 8 + 8 + 8) = False ∧ (n + 8 + 8 + 8 + 8 + 8 + 8 + 8 + 8 + 8 + 8 + 8 = x) = False ∧ (x < n + 8 + 8 + 8 + 8 + 8 + 8 + 8 + 8 + 8 + 8 + 8) = True ∧ (x = n + 8 + 8 + 8 + 8 + 8 + 8 + 8 + 8 + 8 + 8 + 8 + 8) = False ∧ (n + 8 + 8 + 8 + 8 + 8 + 8 + 8 + 8 + 8 + 8 + 8 + 8 = x) = False ∧ (x < n + 8 + 8 + 8 + 8 + 8 + 8 + 8 + 8 + 8 + 8 + 8 + 8) = True ∧ (x = n + 8 + 8 + 8 + 8 + 8 + 8 + 8 + 8 + 8 + 8 + 8 + 8 + 8) = False ∧ (n + 8 + 8 + 8 + 8 + 8 + 8 + 8 + 8 + 8 + 8 + 8 + 8 + 8 = x) = False ∧ (x < n + 8 + 8 + 8 + 8 + 8 + 8 + 8 + 8 + 8 + 8 + 8 + 8 + 8) = True ∧ (x = n + 8 + 8 + 8 + 8 + 8 + 8 + 8 + 8 + 8 + 8 + 8 + 8 + 8 + 8) = False ∧ (n + 8 + 8 + 8 + 8 + 8 + 8 + 8 + 8 + 8 + 8 + 8 + 8 + 8 + 8 = x) = False ∧ (x < n + 8 + 8 + 8 + 8 + 8 + 8 + 8 + 8 + 8 + 8 + 8 + 8 + 8 + 8) = True := by
  refine ⟨?_, ?_, ?_, ?_, ?_, ?_, ?_, ?_, ?_, ?_, ?_, ?_, ?_, ?_, ?_, ?_, ?_, ?_⟩ <;> (apply propext; constructor <;> intro <;> first | trivial | omega)
def uRows (L : List Nat) : List (List V) := L.map fun x : Nat => [.int .u64 (x : Int)]
@[simp] theorem uRows_len (L : List Nat) : (uRows L).length = L.length := by simp [uRows]
/-- What a loop has gathered so far: block 0 leads to it. -/
def OutF (m : Nat) (rows : List (List V)) (u : St) : Prop := (rows = [] ∧ u.hp 0 = some (.box 95 [.nils])) ∨ ∃ o, m ≤ o ∧ o < u.nx ∧ u.hp 0 = some (.box 95 [.own o]) ∧ u.hp o = some (.sl 1 22 rows)
def SFields : List V → Option Res
  | [.str s] => if s.size < 1000000 then (if s.data.toList = [] then some ⟨.nils, []⟩ else some ⟨.own 0, [.sl 1 22 (uRows (fieldsL s.data.toList))]⟩) else none
  | _ => none
theorem runs_fields : ∀ args r, SFields args = some r → Runs Tryd.prog 84 args r := by
  intro args r hh
  unfold SFields at hh
  split at hh
  · rename_i s0
    obtain ⟨l, rfl⟩ := bs_ex s0
    rw [bs_size, bs_data] at hh
    have hT : ((T0.add 82 SSpQ).add 62 SPu).ok Tryd.prog := Tab.add_ok (Tab.add_ok (T0_ok _) runs_SplitSeq) runs_Pu
    split at hh
    · rename_i hlen
      split at hh
      · rename_i hs
        subst hs
        cases hh
        refine Runs.of_body Tryd.func84 (by decide) rfl (by simp [Tryd.f84]) ?_
        refine W.seqE hT mixed M0 (by kernel_rfl) ?_
        simp [Tryd.f84]
        refine W.seqE hT mixed M0 (by kernel_rfl) ?_
        simp [Tryd.f84]
        refine W.cut False [] [] 22 ?_ (fun h => h.elim)
        refine W.of_WE hT mixed M0 _ (by kernel_rfl) ?_
        simp [Tryd.f84, bs_toList]
      · rename_i hs
        cases hh
        refine Runs.of_body Tryd.func84 (by decide) rfl (by simp [Tryd.f84]) ?_
        have hne : ¬ (bs l).toList = [] := by rw [bs_toList]; exact hs
        have hq := spq_at l 58
        refine W.seqE hT mixed M0 (by kernel_rfl) ?_
        simp [Tryd.f84]
        refine W.seqE hT mixed M0 (by kernel_rfl) ?_
        simp [Tryd.f84]
        refine W.seqE hT mixed M0 (by kernel_rfl) ?_
        simp [Tryd.f84, bs_toList, hs]
        refine W.seq (W.cut True [(3, .ptr 0 0), (10, .fn 118 [] [.ptr 2 0, .ptr 1 0, .ptr 3 0])] [.box 95 [.nils], .box 9 [.str (bs l)], .box 9 [.str ⟨#[58]⟩], .box 3 [.int .i64 0]] 22 ?_ ?_)
        · refine W.of_WE hT mixed M0 _ (by kernel_rfl) ?_
          simp [Tryd.f84, hq]
        intro _
        have hlL : (pcs [58] l).length ≤ 1000000 := by
          rw [pcs_spl]
          have := spl_len 58 l
          omega
        have hvals : (spl 58 l).map (pv 16 65535) = fieldsL l := by unfold fieldsL; rw [if_neg hs]
        refine W.block (W.rangeFunc' (n := 4) (by simp) (gf := 118) (fi := []) (caps := [.ptr 2 0, .ptr 1 0, .ptr 3 0]) (by simp) (by simp) Tryd.func118 (by decide) rfl ?_)
        intro fn Lp hLp
        refine spl1_ok ⟨5, 2, 1, 3, [58], l, rfl, by simp; rfl, by simp, by simp, by simp, by simp, by simp, by decide, by decide, by simp, by decide, by omega, fun k u => OutF 6 (uRows (((pcs [58] l).take k).map (pv 16 65535))) u ∧ u.hp 5 = some (Lp .ready none) ∧ u.hp 4 = some (.obj (.deferred (some []))) ∧ 6 ≤ u.nx, ?_, ?_, ?_⟩
        · simp [OutF, uRows]
        · intro k p s0 s' hp hI hbut
          obtain ⟨hout, hb5, hb4, hn6⟩ := hI
          obtain ⟨hbn, hbo⟩ := hbut
          have e5 : s'.hp 5 = some (Lp .ready none) := by rw [hbo 5 (by omega) (by decide)]; exact hb5
          have e4 : s'.hp 4 = some (.obj (.deferred (some []))) := by rw [hbo 4 (by omega) (by decide)]; exact hb4
          have e0 : s'.hp 0 = s0.hp 0 := hbo 0 (by omega) (by decide)
          have htk : uRows (((pcs [58] l).take (k + 1)).map (pv 16 65535)) = uRows (((pcs [58] l).take k).map (pv 16 65535)) ++ [[.int .u64 (pv 16 65535 p : Int)]] := by
            rw [List.take_add_one, hp]; simp [uRows]
          have hlen2 : (uRows (((pcs [58] l).take k).map (pv 16 65535))).length ≤ 1000000 := by simp; omega
          have hpl : p.length ≤ 1000000 := by
            rw [pcs_spl] at hp
            have := spl_part 58 l p (List.mem_of_getElem? hp)
            omega
          have hpu := pu_at (l := p) (b := 16) (w := 16) (c := 16) (M := 65535) rfl (by omega)
          have herr := errP_or (pu 16 65535 p)
          simp only [htk]
          generalize uRows (((pcs [58] l).take k).map (pv 16 65535)) = rows at hout hlen2 ⊢
          generalize errP (pu 16 65535 p) = EV at hpu herr
          generalize pv 16 65535 p = PV at hpu ⊢
          refine CallY.of_loop' hLp e5 rfl (by simp) ?_
          refine W.of_WE hT mixed M0 _ (by kernel_rfl) ?_
          have z5 := fresh_ne (show 5 < s'.nx by omega)
          have z0 := fresh_ne (show 0 < s'.nx by omega)
          have z4 := fresh_ne (show 4 < s'.nx by omega)
          have z1 := fresh_ne (show 1 < s'.nx by omega)
          have z2 := fresh_ne (show 2 < s'.nx by omega)
          have z3 := fresh_ne (show 3 < s'.nx by omega)
          have y5 := fresh_hi (show 5 < s'.nx by omega)
          have y0 := fresh_hi (show 0 < s'.nx by omega)
          have y4 := fresh_hi (show 4 < s'.nx by omega)
          have y1 := fresh_hi (show 1 < s'.nx by omega)
          have y2 := fresh_hi (show 2 < s'.nx by omega)
          have y3 := fresh_hi (show 3 < s'.nx by omega)
          rcases hout with ⟨hr, h0⟩ | ⟨o, ho6, ho, h0, hob⟩
          · rw [h0] at e0
            simp [e5, z5]
            refine W.of_WE hT mixed M0 _ (by kernel_rfl) ?_
            rcases herr with rfl | rfl
            all_goals
              simp [e5, e4, e0, z5, z4, z0, z1, z2, z3, y5, y4, y0, y1, y2, y3, hpu]
              subst hr
              exact ⟨.inr ⟨s'.nx + 8 + 8 + 8 + 8 + 8 + 8 + 8 + 8 + 8 + 8 + 8, by omega, by simp, by simp [z0, z5, y0, y5], by simp [z0, z5, y0, y5]⟩, by omega⟩
          · rw [h0] at e0
            have eo : s'.hp o = some (.sl 1 22 rows) := by rw [hbo o ho (by omega)]; exact hob
            have zo := fresh_ne (show o < s'.nx by omega)
            have yo := fresh_hi (show o < s'.nx by omega)
            simp [e5, z5]
            refine W.of_WE hT mixed M0 _ (by kernel_rfl) ?_
            rcases herr with rfl | rfl
            all_goals
              simp [e5, e4, e0, eo, z5, z4, z0, z1, z2, z3, zo, y5, y4, y0, y1, y2, y3, yo, hpu, show ¬ o = 0 by omega, show ¬ 0 = o by omega, show ¬ o = 5 by omega, show ¬ 5 = o by omega, show ¬ o = 4 by omega, show ¬ 4 = o by omega, show ¬ o = 1 by omega, show ¬ 1 = o by omega, show ¬ o = 2 by omega, show ¬ 2 = o by omega, show ¬ o = 3 by omega, show ¬ 3 = o by omega]
              exact ⟨by omega, by omega, .inr ⟨s'.nx + 8 + 8 + 8 + 8 + 8 + 8 + 8 + 8 + 8 + 8 + 8, by omega, by simp, by simp [z0, z5, y0, y5, zo, yo, show ¬ o = 0 by omega, show ¬ o = 5 by omega, show ¬ 0 = o by omega, show ¬ 5 = o by omega], by simp [z0, z5, y0, y5, zo, yo, show ¬ o = 0 by omega, show ¬ o = 5 by omega]⟩, by omega⟩
        · intro s0 s' hI hbut
          obtain ⟨hout, hb5, hb4, hn6⟩ := hI
          obtain ⟨hbn, hbo⟩ := hbut
          have e5 : s'.hp 5 = some (Lp .ready none) := by rw [hbo 5 (by omega) (by decide)]; exact hb5
          have e4 : s'.hp 4 = some (.obj (.deferred (some []))) := by rw [hbo 4 (by omega) (by decide)]; exact hb4
          have e0 : s'.hp 0 = s0.hp 0 := hbo 0 (by omega) (by decide)
          rw [List.take_length, pcs_spl, hvals] at hout
          have hne2 : uRows (fieldsL l) ≠ [] := by
            rw [← hvals]
            have := spl_ne 58 l
            simp [uRows, this]
          obtain ⟨o, ho6, ho, h0, hob⟩ := hout.resolve_left (fun h => hne2 h.1)
          rw [h0] at e0
          have eo : s'.hp o = some (.sl 1 22 (uRows (fieldsL l))) := by rw [hbo o ho (by omega)]; exact hob
          refine ⟨.ready, none, e5, by simp, ?_⟩
          show W _ _ _ _
          refine W.of_WE hT mixed M0 _ (by kernel_rfl) ?_
          simp [e0, e4, eo]
          exact ⟨o, by omega, by omega, eo, rfl⟩
    · cases hh
  · cases hh

end Go.Proofs.YtbnjijffkjcmcaaDoor.AL
namespace Go.Proofs.YtbnjijffkjcmcaaDoor.AL
open Go
/-! A result told as one that is only read. -/
section
variable {P : Program} [Gl P] {f : FuncId} {args : List V}
theorem CalledX.mono {g : FuncId} {us : List Value} {w : World} {R R' : Value → World → Prop} {X X' : List PanicEntry → World → Prop} (x : CalledX P g us w R X) (h : ∀ v w, R v w → R' v w) (k : ∀ c w, X c w → X' c w) : CalledX P g us w R' X' := NextX.mono h k x
theorem Runs.weakR {x x' : V} (h : ∀ (E : Env) (v : Value), R E x v → R E x' v) (hr : Runs P f args ⟨x, []⟩) : Runs P f args ⟨x', []⟩ := fun E vs h1 h2 h3 h4 =>
  (hr E vs h1 h2 h3 h4).mono (fun v w' ⟨E', e, hp⟩ => ⟨E', e, ⟨hp.D, h E' v hp.R, hp.hp, hp.ev, hp.O, hp.Oz⟩⟩) (fun _ _ h => h)
theorem Runs.frz {sz : Nat} {ty : TypeId} {rows : List (List V)} (hr : Runs P f args ⟨.own 0, [.sl sz ty rows]⟩) : Runs P f args ⟨.rd sz rows, []⟩ := by
  intro E vs h1 h2 h3 h4
  refine (hr E vs h1 h2 h3 h4).mono (fun v w' ⟨E', e, hp⟩ => ?_) (fun _ _ h => h)
  obtain ⟨hD, hB⟩ := hp.hp.blk 0 (.sl sz ty rows) rfl
  obtain ⟨E1, hE1⟩ : ∃ E1 : Env, E1 = { E' with O := fun g => E'.O g ∧ blkOf (E'.σ 0) ≠ some g } := ⟨_, rfl⟩
  have hw : E1.w = E'.w := by subst hE1; rfl
  have hO : ∀ g, E1.O g ↔ E'.O g ∧ blkOf (E'.σ 0) ≠ some g := fun g => by subst hE1; exact Iff.rfl
  have hσ : E1.σ = E'.σ := by subst hE1; rfl
  have hD1 : E1.D = E'.D := by subst hE1; rfl
  have hle : E'.le E1 := ⟨fun b h => by rw [hD1]; exact h, fun b _ => by rw [hσ], by rw [hw]; exact Nat.le_refl _, fun g hg h => ⟨by rw [hw], fun h' => h ((hO g).1 h').1⟩⟩
  have hnO : ∀ g, blkOf (E'.σ 0) = some g → ¬ E1.O g := fun g hg h => ((hO g).1 h).2 hg
  have hR := R.fz (F := fun g => g < E.w.heap.size) (b := 0) (x := .sl sz ty rows) hle hB (by simp [fzOk]) hnO hw _ _ hp.R
  have hR1 : R E1 (.rd sz rows) v := by simpa [V.fz] using hR
  obtain ⟨E2, hE2⟩ : ∃ E2 : Env, E2 = { E1 with D := fun _ => False } := ⟨_, rfl⟩
  have hw2 : E2.w = E1.w := by subst hE2; rfl
  have hO2 : E2.O = E1.O := by subst hE2; rfl
  have hle2 : E1.le0 E2 := ⟨by rw [hw2]; exact Nat.le_refl _, fun g hg h => ⟨by rw [hw2], by rw [hO2]; exact h⟩⟩
  refine ⟨E2, by rw [hw2, hw, e], ⟨fun b hb => ?_, R.clean hle2 _ _ rfl hR1, ⟨fun b x hx => by simp [Res.hp] at hx, fun b b' x x' g hx => by simp [Res.hp] at hx⟩, by rw [hw2, hw]; exact hp.ev, fun g hg => ?_, fun g hg => ?_⟩⟩
  · subst hE2; exact hb.elim
  · rw [hO2, hO, hp.O g hg]
    exact ⟨fun h => h.1, fun h => ⟨h, fun hb => (hB.own hb).1 hg⟩⟩
  · rw [hO2, hO] at hg
    rw [hw2, hw]
    exact hp.Oz g hg.1
end
end Go.Proofs.YtbnjijffkjcmcaaDoor.AL
namespace Go.Proofs.YtbnjijffkjcmcaaDoor.AL
open Go
attribute [local simp] qf cv qbin ibin sbin qun retPost rvOk ctV ctPost marksOk retV resAll resOf V.lt ltL V.ren renL V.exp V.exp1 cleanL V.clean closedL V.closed V.cells V.one V.tree
  loadV cellsAt isNC nilQ isSlD isIfD slNew ownRows ownCells V.isOwn slStore srcO qlook mlook mget mstr zval qnone qmake mput lmap isAggD placesOf fillV putCells lstore bound seqParts V.sh shL Blk.sh newV V.ok peqs peq srcRows qbytes byteSl appOk mmV mmR hidE V.fz fzL Blk.fz fzOk and_assoc
attribute [-simp] Int.not_le Int.not_lt Nat.not_le Nat.not_lt
def SFldR : List V → Option Res
  | [.str s] => if s.size < 1000000 then some ⟨.rd 1 (uRows (fieldsL s.data.toList)), []⟩ else none
  | _ => none
theorem fld_at {l : List UInt8} (h : l.length < 1000000) : SFldR [.str (bs l)] = some ⟨.rd 1 (uRows (fieldsL l)), []⟩ := by
  simp only [SFldR, bs_size, bs_data]
  rw [if_pos h]
theorem runs_fldR : ∀ args r, SFldR args = some r → Runs Tryd.prog 84 args r := by
  intro args r hh
  unfold SFldR at hh
  split at hh
  · rename_i s
    split at hh
    · rename_i hl
      cases hh
      by_cases hs : s.data.toList = []
      · have h1 : SFields [.str s] = some ⟨.nils, []⟩ := by simp only [SFields]; rw [if_pos hl, if_pos hs]
        have e : fieldsL s.data.toList = [] := by unfold fieldsL; rw [if_pos hs]
        rw [e]
        exact Runs.weakR (fun E v h => R_nils_rd 1 h) (runs_fields _ _ h1)
      · have h1 : SFields [.str s] = some ⟨.own 0, [.sl 1 22 (uRows (fieldsL s.data.toList))]⟩ := by simp only [SFields]; rw [if_pos hl, if_neg hs]
        exact Runs.frz (runs_fields _ _ h1)
    · cases hh
  · cases hh
/-! Groups put together. -/
theorem bOr_u64 {a b : Nat} (ha : a < 18446744073709551616) (hb : b < 18446744073709551616) : bOr .u64 (a : Int) (b : Int) = ((a ||| b : Nat) : Int) := by
  unfold bOr
  have e : ∀ x : Nat, x < 18446744073709551616 → (BitVec.ofInt (IntKind.u64).bits (x : Int)).toNat = x := by
    intro x h
    rw [BitVec.toNat_ofInt]
    show ((x : Int) % ((2 ^ 64 : Nat) : Int)).toNat = x
    omega
  rw [BitVec.toNat_or, e a ha, e b hb]
  have h2 : a ||| b < 2 ^ 64 := Nat.or_lt_two_pow (by omega) (by omega)
  rw [wr_u64 (by omega) (by omega)]
theorem or_add {a b : Nat} (i : Nat) (hb : b < 2 ^ i) : (a * 2 ^ i) ||| b = a * 2 ^ i + b := by
  rw [← Nat.shiftLeft_eq, ← Nat.shiftLeft_add_eq_or_of_lt hb]
theorem put_high {h l : Nat} (hh : h < 18446744073709551616) (hl : l < 18446744073709551616) : bOr .u64 (bShl .u64 (h : Int) 16) (bShr .u64 (l : Int) 48) = (((h * 65536 + l / 281474976710656) % 18446744073709551616 : Nat) : Int) := by
  have e1 : bShl .u64 (h : Int) 16 = ((h % 281474976710656 * 65536 : Nat) : Int) := by
    have := bShl_nat (x := (h : Int)) (k := 16) (by omega)
    rw [show ((16 : Nat) : Int) = 16 by rfl] at this
    rw [this, wrap_u64, show ((2 : Int) ^ 16) = 65536 by rfl]
    omega
  have e2 : bShr .u64 (l : Int) 48 = ((l / 281474976710656 : Nat) : Int) := by
    have := bShr_nat (x := (l : Int)) (k := 48) (by omega)
    rw [show ((48 : Nat) : Int) = 48 by rfl] at this
    rw [this, show ((2 : Int) ^ 48) = 281474976710656 by rfl]
    omega
  rw [e1, e2, bOr_u64 (by omega) (by omega)]
  have := or_add (a := h % 281474976710656) (b := l / 281474976710656) 16 (by show l / 281474976710656 < 65536; omega)
  rw [show (2 : Nat) ^ 16 = 65536 by rfl] at this
  rw [this]
  omega
theorem put_low {l x : Nat} (hx : x < 65536) : bOr .u64 (bShl .u64 (l : Int) 16) (x : Int) = ((l * 65536 % 18446744073709551616 + x : Nat) : Int) := by
  have e1 : bShl .u64 (l : Int) 16 = ((l % 281474976710656 * 65536 : Nat) : Int) := by
    have := bShl_nat (x := (l : Int)) (k := 16) (by omega)
    rw [show ((16 : Nat) : Int) = 16 by rfl] at this
    rw [this, wrap_u64, show ((2 : Int) ^ 16) = 65536 by rfl]
    omega
  rw [e1, bOr_u64 (by omega) (by omega)]
  have := or_add (a := l % 281474976710656) (b := x) 16 (by show x < 65536; omega)
  rw [show (2 : Nat) ^ 16 = 65536 by rfl] at this
  rw [this]
  omega
theorem st4_eq {l x : Nat} (hl : l < 4294967296) (hx : x < 256) : bAnd .u64 (bOr .u64 (bShl .u64 (l : Int) 8) (x : Int)) 4294967295 = (((l * 256 + x) % 4294967296 : Nat) : Int) := by
  have e1 : bShl .u64 (l : Int) 8 = ((l * 256 : Nat) : Int) := by
    have := bShl_nat (x := (l : Int)) (k := 8) (by omega)
    rw [show ((8 : Nat) : Int) = 8 by rfl] at this
    rw [this, wrap_u64, show ((2 : Int) ^ 8) = 256 by rfl]
    omega
  rw [e1, bOr_u64 (by omega) (by omega)]
  have := or_add (a := l) (b := x) 8 (by show x < 256; omega)
  rw [show (2 : Nat) ^ 8 = 256 by rfl] at this
  rw [this, bAnd_u64' (by omega) (by omega) (by omega) (by omega)]
  rw [Int.toNat_natCast, show (4294967295 : Int).toNat = 2 ^ 32 - 1 by rfl, Nat.and_two_pow_sub_one_eq_mod]
def adV (p : Nat × Nat) : V := .agg [.int .u64 (p.1 : Int), .int .u64 (p.2 : Int)]
noncomputable def SPut : List V → Option Res
  | [.agg [.int .u64 h, .int .u64 l], .int .u64 x] => ifC ((0 ≤ h ∧ h < 18446744073709551616) ∧ (0 ≤ l ∧ l < 18446744073709551616) ∧ 0 ≤ x ∧ x < 65536) (some ⟨adV (putN (h.toNat, l.toNat) x.toNat), []⟩)
  | _ => none
theorem put_at {p : Nat × Nat} {x : Nat} (h1 : p.1 < 18446744073709551616) (h2 : p.2 < 18446744073709551616) (hx : x < 65536) : SPut [.agg [.int .u64 (p.1 : Int), .int .u64 (p.2 : Int)], .int .u64 (x : Int)] = some ⟨.agg [.int .u64 ((putN p x).1 : Int), .int .u64 ((putN p x).2 : Int)], []⟩ := by
  simp only [SPut]
  rw [ifC_pos ⟨by omega, by omega, by omega⟩]
  rfl
theorem runs_put : ∀ args r, SPut args = some r → Runs Tryd.prog 85 args r := by
  intro args r hh
  unfold SPut ifC at hh
  split at hh
  · rename_i h0 l0 x0
    split at hh
    · rename_i hin
      obtain ⟨⟨a1, a2⟩, ⟨a3, a4⟩, a5, a6⟩ := hin
      obtain ⟨h, rfl⟩ := Int.eq_ofNat_of_zero_le a1
      obtain ⟨l, rfl⟩ := Int.eq_ofNat_of_zero_le a3
      obtain ⟨x, rfl⟩ := Int.eq_ofNat_of_zero_le a5
      cases hh
      have g1 := put_high (h := h) (l := l) (by omega) (by omega)
      have g2 := put_low (l := l) (x := x) (by omega)
      show Runs _ _ _ ⟨.agg [.int .u64 (((h * 65536 + l / 281474976710656) % 18446744073709551616 : Nat) : Int), .int .u64 ((l * 65536 % 18446744073709551616 + x : Nat) : Int)], []⟩
      generalize (((h * 65536 + l / 281474976710656) % 18446744073709551616 : Nat) : Int) = X at g1 ⊢
      generalize ((l * 65536 % 18446744073709551616 + x : Nat) : Int) = Y at g2 ⊢
      refine Runs.of_body Tryd.func85 (by decide) rfl (by simp [Tryd.f85]) ?_
      refine W.of_WE (T0_ok _) mixed M0 _ (by kernel_rfl) ?_
      simp [Tryd.f85, g1, g2]
    · cases hh
  · cases hh

end Go.Proofs.YtbnjijffkjcmcaaDoor.AL
namespace Go.Proofs.YtbnjijffkjcmcaaDoor.AL
open Go
attribute [local simp] qf cv qbin ibin sbin qun retPost rvOk ctV ctPost marksOk retV resAll resOf V.lt ltL V.ren renL V.exp V.exp1 cleanL V.clean closedL V.closed V.cells V.one V.tree
  loadV cellsAt isNC nilQ isSlD isIfD slNew ownRows ownCells V.isOwn slStore srcO qlook mlook mget mstr zval qnone qmake mput lmap isAggD placesOf fillV putCells lstore bound seqParts V.sh shL Blk.sh newV V.ok peqs peq srcRows qbytes byteSl appOk mmV mmR hidE V.fz fzL Blk.fz fzOk and_assoc
attribute [-simp] Int.not_le Int.not_lt Nat.not_le Nat.not_lt
def acc (L : List Nat) : Nat × Nat := L.foldl putN (0, 0)
theorem acc_snoc (L : List Nat) (x : Nat) : acc (L ++ [x]) = putN (acc L) x := by simp [acc]
theorem acc_lt {L : List Nat} (h : ∀ x ∈ L, x < 65536) : (acc L).1 < 18446744073709551616 ∧ (acc L).2 < 18446744073709551616 := putN_fold L (0, 0) h (by decide) (by decide)
theorem take_snoc_nat (L : List Nat) (k : Nat) (h : k < L.length) : L.take (k + 1) = L.take k ++ [L[k]] := List.take_succ_eq_append_getElem h
@[simp] theorem uRows_getElem (L : List Nat) (i : Nat) (h : i < (uRows L).length) : (uRows L)[i] = [.int .u64 ((L[i]'(by simpa using h) : Nat) : Int)] := by simp [uRows]
/-- The parts of the string, and what is read of them. -/
def p6l (l : List UInt8) : List UInt8 := (Lib.cut l [58, 58]).1
def p6r (l : List UInt8) : List UInt8 := (Lib.cut l [58, 58]).2.1
def p6s (l : List UInt8) : Bool := (Lib.cut l [58, 58]).2.2
def p6n (l : List UInt8) : Nat := if p6s l = true then 8 - ((fieldsL (p6l l)).length + (fieldsL (p6r l)).length) else 0
theorem p6_eq (l : List UInt8) : parse6L l = acc (fieldsL (p6l l) ++ List.replicate (p6n l) 0 ++ fieldsL (p6r l)) := by
  have hc := cut_cutG (sep := [58, 58]) (by simp) l
  unfold parse6L p6n p6l p6r p6s
  rw [hc, cut2_G]
  cases cut2 l with
  | none => simp [fieldsL, acc]
  | some p => obtain ⟨a, b⟩ := p; rfl
theorem p6_len (l : List UInt8) : (p6l l).length ≤ l.length ∧ (p6r l).length ≤ l.length := by
  have hc := cut_cutG (sep := [58, 58]) (by simp) l
  unfold p6l p6r
  rw [hc]
  cases h : cutG [58, 58] l with
  | none => simp
  | some p =>
    obtain ⟨a, b⟩ := p
    have := (cutG_len (by simp) h).2
    simp at this ⊢
    omega
theorem fields_len (l : List UInt8) : (fieldsL l).length ≤ l.length + 1 := by
  unfold fieldsL
  split
  · simp
  · have := spl_len 58 l
    simpa using this
def SP6 : List V → Option Res
  | [.str s] => if s.size < 100000 then some ⟨adV (parse6L s.data.toList), []⟩ else none
  | _ => none
theorem p6_at {l : List UInt8} (h : l.length < 100000) : SP6 [.str (bs l)] = some ⟨.agg [.int .u64 ((parse6L l).1 : Int), .int .u64 ((parse6L l).2 : Int)], []⟩ := by
  simp only [SP6, bs_size, bs_data]
  rw [if_pos h]
  rfl
def adC (L : List Nat) : List V := [.int .u64 ((acc L).1 : Int), .int .u64 ((acc L).2 : Int)]
@[simp] theorem adC_ren (ns : List Nat) (L : List Nat) : renL ns (adC L) = adC L := nr rfl
@[simp] theorem adC_lt (n : Nat) (L : List Nat) : ltL n (adC L) = true := nr rfl
theorem runs_parse6 : ∀ args r, SP6 args = some r → Runs Tryd.prog 58 args r := by
  intro args r hh
  unfold SP6 at hh
  split at hh
  · rename_i s0
    obtain ⟨l, rfl⟩ := bs_ex s0
    rw [bs_size, bs_data] at hh
    split at hh
    · rename_i hlen
      cases hh
      have hT : (((T0.add 61 SCutS).add 84 SFldR).add 85 SPut).ok Tryd.prog := Tab.add_ok (Tab.add_ok (Tab.add_ok (T0_ok _) runs_CutS) runs_fldR) runs_put
      have hcut : SCutS [.str (bs l), .str ⟨#[58, 58]⟩] = some ⟨.tup [.str (bs (p6l l)), .str (bs (p6r l)), .bool (p6s l)], []⟩ := cutS_at (sep := [58, 58]) (by simp) (by omega)
      have hpl := p6_len l
      have hfl := fld_at (l := p6l l) (by omega)
      have hfr := fld_at (l := p6r l) (by omega)
      have hA := fields_lt (p6l l)
      have hB := fields_lt (p6r l)
      have hAl := fields_len (p6l l)
      have hBl := fields_len (p6r l)
      have hres := p6_eq l
      have hnn : p6n l = if p6s l = true then 8 - ((fieldsL (p6l l)).length + (fieldsL (p6r l)).length) else 0 := rfl
      show Runs _ _ _ ⟨.agg [.int .u64 ((parse6L l).1 : Int), .int .u64 ((parse6L l).2 : Int)], []⟩
      rw [hres]
      clear hres
      refine Runs.of_body Tryd.func58 (by decide) rfl (by simp [Tryd.f58]) ?_
      refine W.seqE hT mixed M0 (by kernel_rfl) ?_
      simp [Tryd.f58]
      refine W.seqE hT mixed M0 (by kernel_rfl) ?_
      simp [Tryd.f58]
      refine W.seqE hT mixed M0 (by kernel_rfl) ?_
      simp [Tryd.f58, hcut]
      generalize p6n l = N at *
      generalize p6s l = sh at *
      generalize fieldsL (p6l l) = A at *
      generalize fieldsL (p6r l) = B at *
      generalize p6l l = ll at *
      generalize p6r l = rl at *
      refine W.seqE hT mixed M0 (by kernel_rfl) ?_
      simp [Tryd.f58, hfl, hfr]
      refine W.cut True [(2, .ptr 0 0), (3, .ptr 1 0), (6, .bool sh), (7, .rd 1 (uRows A)), (8, .rd 1 (uRows B))] [.box 24 [.int .u64 0, .int .u64 0], .box 24 (adC A)] 59 ?_ ?_
      · refine W.seqE hT mixed M0 (by kernel_rfl) ?_
        simp
        refine W.block (W.for (fun _ => True) (fun k => [(2, .ptr 0 0), (3, .ptr 1 0), (6, .bool sh), (7, .rd 1 (uRows A)), (8, .rd 1 (uRows B)), (24, .rd 1 (uRows A)), (25, .int .i64 A.length), (26, .int .i64 k)]) (fun k => [.box 24 [.int .u64 0, .int .u64 0], .box 24 (adC (A.take k))]) 59 A.length trivial ?_ ?_)
        · simp [adC, acc]
        · intro k hk _
          by_cases hlt : k < A.length
          · have hw1 : IntKind.i64.wrap ((k : Int) + 1) = k + 1 := wr_i64 (by omega) (by omega)
            have hac := acc_lt (L := A.take k) (fun x hx => hA x (List.mem_of_mem_take hx))
            have hp := put_at hac.1 hac.2 (hA A[k] (List.getElem_mem hlt))
            rw [← acc_snoc, ← take_snoc_nat A k hlt] at hp
            have hge : (uRows A)[k]'(by simpa using hlt) = [.int .u64 ((A[k] : Nat) : Int)] := uRows_getElem _ _ _
            refine W.of_WE hT mixed M0 _ (by kernel_rfl) ?_
            simp [hlt, hge, hp, hw1, adC]
          · have : k = A.length := by omega
            subst this
            refine W.of_WE hT mixed M0 _ (by kernel_rfl) ?_
            simp
      intro _
      have hN8 : N ≤ 8 := by rw [hnn]; split <;> omega
      have e0 : ∀ k, acc (A ++ List.replicate (k + 1) 0) = putN (acc (A ++ List.replicate k 0)) 0 := fun k => by rw [List.replicate_succ', ← List.append_assoc, acc_snoc]
      have hR : ∀ k, ∀ x ∈ A ++ List.replicate k 0, x < 65536 := fun k x hx => by
        rcases List.mem_append.1 hx with hx | hx
        · exact hA x hx
        · have := (List.mem_replicate.1 hx).2; omega
      refine W.cut True [(2, .ptr 0 0), (3, .ptr 1 0), (8, .rd 1 (uRows B))] [.box 24 [.int .u64 0, .int .u64 0], .box 24 (adC (A ++ List.replicate N 0))] 59 ?_ ?_
      · refine W.seqE hT mixed M0 (by kernel_rfl) ?_
        simp
        have hw0 : IntKind.i64.wrap ((A.length : Int) + B.length) = (A.length + B.length : Nat) := by rw [wr_i64 (by omega) (by omega)]; push_cast; rfl
        refine W.block (W.for (fun _ => True) (fun k => [(2, .ptr 0 0), (3, .ptr 1 0), (6, .bool sh), (8, .rd 1 (uRows B)), (11, .int .i64 (A.length + B.length + k : Nat))]) (fun k => [.box 24 [.int .u64 0, .int .u64 0], .box 24 (adC (A ++ List.replicate k 0))]) 59 N trivial ?_ ?_)
        · simp [hw0]
        · intro k hk _
          have hac := acc_lt (hR k)
          have hp := put_at hac.1 hac.2 (x := 0) (by decide)
          rw [← e0 k, show ((0 : Nat) : Int) = 0 from rfl] at hp
          have hw1 : IntKind.i64.wrap (((A.length + B.length + k : Nat) : Int) + 1) = (A.length + B.length + (k + 1) : Nat) := by rw [wr_i64 (by omega) (by omega)]; push_cast; omega
          refine W.of_WE hT mixed M0 _ (by kernel_rfl) ?_
          cases sh with
          | false =>
            simp at hnn
            have : k = N := by omega
            subst this
            simp
          | true =>
            simp at hnn
            by_cases hlt : k < N
            · have h8 : ((A.length + B.length + k : Nat) : Int) < 8 := by omega
              simp only [adC]
              generalize ((A.length + B.length + k : Nat) : Int) = I0 at *
              generalize ((A.length + B.length + (k + 1) : Nat) : Int) = I1 at *
              simp [hlt, h8, hp, hw1]
            · have : k = N := by omega
              subst this
              have h8 : ¬ ((A.length + B.length + k : Nat) : Int) < 8 := by omega
              generalize ((A.length + B.length + k : Nat) : Int) = I0 at *
              simp [h8]
      intro _
      have hL := hR N
      generalize hZ : A ++ List.replicate N 0 = Z at *
      have hS : ∀ k, ∀ x ∈ Z ++ B.take k, x < 65536 := fun k x hx => by
        rcases List.mem_append.1 hx with hx | hx
        · exact hL x hx
        · exact hB x (List.mem_of_mem_take hx)
      refine W.cut True [(2, .ptr 0 0), (3, .ptr 1 0)] [.box 24 [.int .u64 0, .int .u64 0], .box 24 (adC (Z ++ B))] 59 ?_ ?_
      · refine W.seqE hT mixed M0 (by kernel_rfl) ?_
        simp
        refine W.block (W.for (fun _ => True) (fun k => [(2, .ptr 0 0), (3, .ptr 1 0), (48, .rd 1 (uRows B)), (49, .int .i64 B.length), (50, .int .i64 k)]) (fun k => [.box 24 [.int .u64 0, .int .u64 0], .box 24 (adC (Z ++ B.take k))]) 59 B.length trivial ?_ ?_)
        · simp
        · intro k hk _
          by_cases hlt : k < B.length
          · have hw1 : IntKind.i64.wrap ((k : Int) + 1) = k + 1 := wr_i64 (by omega) (by omega)
            have hac := acc_lt (hS k)
            have hp := put_at hac.1 hac.2 (hB B[k] (List.getElem_mem hlt))
            rw [← acc_snoc, List.append_assoc, ← take_snoc_nat B k hlt] at hp
            have hge : (uRows B)[k]'(by simpa using hlt) = [.int .u64 ((B[k] : Nat) : Int)] := uRows_getElem _ _ _
            refine W.of_WE hT mixed M0 _ (by kernel_rfl) ?_
            simp [hlt, hge, hp, hw1, adC]
          · have : k = B.length := by omega
            subst this
            refine W.of_WE hT mixed M0 _ (by kernel_rfl) ?_
            simp
      intro _
      refine W.of_WE hT mixed M0 _ (by kernel_rfl) ?_
      simp [adC]
      rw [← hZ, List.append_assoc]
      exact ⟨rfl, rfl⟩
    · cases hh
  · cases hh
/-! Four bytes. -/
def acc4 (L : List (List UInt8)) : Nat := L.foldl st4 0
theorem acc4_snoc (L : List (List UInt8)) (x : List UInt8) : acc4 (L ++ [x]) = st4 (acc4 L) x := by simp [acc4]
theorem acc4_lt (L : List (List UInt8)) : acc4 L < 4294967296 := foldl_bd L 0 (by decide)
def SP4 : List V → Option Res
  | [.str s] => if s.size < 100000 then some ⟨.agg [.int .u64 0, .int .u64 (parse4L s.data.toList : Int)], []⟩ else none
  | _ => none
theorem p4_at {l : List UInt8} (h : l.length < 100000) : SP4 [.str (bs l)] = some ⟨.agg [.int .u64 0, .int .u64 (parse4L l : Int)], []⟩ := by
  simp only [SP4, bs_size, bs_data]
  rw [if_pos h]
theorem runs_parse4 : ∀ args r, SP4 args = some r → Runs Tryd.prog 56 args r := by
  intro args r hh
  unfold SP4 at hh
  split at hh
  · rename_i s0
    obtain ⟨l, rfl⟩ := bs_ex s0
    rw [bs_size, bs_data] at hh
    have hT : ((T0.add 82 SSpQ).add 62 SPu).ok Tryd.prog := Tab.add_ok (Tab.add_ok (T0_ok _) runs_SplitSeq) runs_Pu
    split at hh
    · rename_i hlen
      cases hh
      refine Runs.of_body Tryd.func56 (by decide) rfl (by simp [Tryd.f56]) ?_
      have hq := spq_at l 46
      refine W.seqE hT mixed M0 (by kernel_rfl) ?_
      simp [Tryd.f56]
      refine W.seqE hT mixed M0 (by kernel_rfl) ?_
      simp [Tryd.f56]
      refine W.seq (W.cut True [(2, .ptr 0 0), (3, .ptr 1 0), (8, .fn 118 [] [.ptr 3 0, .ptr 2 0, .ptr 4 0])] [.box 24 [.int .u64 0, .int .u64 0], .box 24 [.int .u64 0, .int .u64 0], .box 9 [.str (bs l)], .box 9 [.str ⟨#[46]⟩], .box 3 [.int .i64 0]] 23 ?_ ?_)
      · refine W.of_WE hT mixed M0 _ (by kernel_rfl) ?_
        simp [Tryd.f56, hq]
        refine ⟨[0, 8, 24, 25, 26], ?_⟩
        simp [wkOkx, tmOk, dfOk, hpOk]
      intro _
      refine W.block (W.rangeFunc' (n := 5) (by simp) (gf := 118) (fi := []) (caps := [.ptr 3 0, .ptr 2 0, .ptr 4 0]) (by simp) (by simp) Tryd.func118 (by decide) rfl ?_)
      intro fn Lp hLp
      refine spl1_ok ⟨6, 3, 2, 4, [46], l, rfl, by simp; rfl, by simp, by simp, by simp, by simp, by simp, by decide, by decide, by simp, by decide, by omega, fun k u => u.hp 1 = some (.box 24 [.int .u64 0, .int .u64 (acc4 ((pcs [46] l).take k) : Int)]) ∧ u.hp 0 = some (.box 24 [.int .u64 0, .int .u64 0]) ∧ u.hp 6 = some (Lp .ready none) ∧ u.hp 5 = some (.obj (.deferred (some []))) ∧ 7 ≤ u.nx, ?_, ?_, ?_⟩
      · simp [acc4]
      · intro k p s0 s' hp hI hbut
        obtain ⟨hb1, hb0, hb6, hb5, hn7⟩ := hI
        obtain ⟨hbn, hbo⟩ := hbut
        have e6 : s'.hp 6 = some (Lp .ready none) := by rw [hbo 6 (by omega) (by decide)]; exact hb6
        have e5 : s'.hp 5 = some (.obj (.deferred (some []))) := by rw [hbo 5 (by omega) (by decide)]; exact hb5
        have e0 : s'.hp 0 = some (.box 24 [.int .u64 0, .int .u64 0]) := by rw [hbo 0 (by omega) (by decide)]; exact hb0
        have e1 : s'.hp 1 = some (.box 24 [.int .u64 0, .int .u64 (acc4 ((pcs [46] l).take k) : Int)]) := by rw [hbo 1 (by omega) (by decide)]; exact hb1
        have htk : acc4 ((pcs [46] l).take (k + 1)) = (acc4 ((pcs [46] l).take k) * 256 + pv 10 255 p) % 4294967296 := by
          rw [List.take_add_one, hp]; simp only [Option.toList]; rw [acc4_snoc]; rfl
        have hpl : p.length ≤ 1000000 := by
          rw [pcs_spl] at hp
          have := spl_part 46 l p (List.mem_of_getElem? hp)
          omega
        have hpu := pu_at (l := p) (b := 10) (w := 8) (c := 10) (M := 255) rfl (by omega)
        have herr := errP_or (pu 10 255 p)
        have hst := st4_eq (acc4_lt ((pcs [46] l).take k)) (show pv 10 255 p < 256 by have := pv_le (b := 10) (M := 255) p; omega)
        rw [← htk] at hst
        simp only [htk]
        rw [htk] at hst
        generalize errP (pu 10 255 p) = EV at hpu herr
        refine CallY.of_loop' hLp e6 rfl (by simp) ?_
        refine W.of_WE hT mixed M0 _ (by kernel_rfl) ?_
        have z6 := fresh_ne (show 6 < s'.nx by omega)
        have z5 := fresh_ne (show 5 < s'.nx by omega)
        have z0 := fresh_ne (show 0 < s'.nx by omega)
        have z4 := fresh_ne (show 4 < s'.nx by omega)
        have z1 := fresh_ne (show 1 < s'.nx by omega)
        have z2 := fresh_ne (show 2 < s'.nx by omega)
        have z3 := fresh_ne (show 3 < s'.nx by omega)
        simp [e6, z6]
        refine W.of_WE hT mixed M0 _ (by kernel_rfl) ?_
        rcases herr with rfl | rfl
        all_goals
          simp [e6, e5, e0, e1, z6, z5, z4, z0, z1, z2, z3, hpu, hst]
          omega
      · intro s0 s' hI hbut
        obtain ⟨hb1, hb0, hb6, hb5, hn7⟩ := hI
        obtain ⟨hbn, hbo⟩ := hbut
        have e6 : s'.hp 6 = some (Lp .ready none) := by rw [hbo 6 (by omega) (by decide)]; exact hb6
        have e5 : s'.hp 5 = some (.obj (.deferred (some []))) := by rw [hbo 5 (by omega) (by decide)]; exact hb5
        have e0 : s'.hp 0 = some (.box 24 [.int .u64 0, .int .u64 0]) := by rw [hbo 0 (by omega) (by decide)]; exact hb0
        have e1 : s'.hp 1 = some (.box 24 [.int .u64 0, .int .u64 (parse4L l : Int)]) := by
          rw [hbo 1 (by omega) (by decide), hb1, List.take_length, pcs_spl]; rfl
        refine ⟨.ready, none, e6, by simp, ?_⟩
        show W _ _ _ _
        refine W.of_WE hT mixed M0 _ (by kernel_rfl) ?_
        simp [e0, e5, e1]
    · cases hh
  · cases hh

end Go.Proofs.YtbnjijffkjcmcaaDoor.AL
namespace Go.Proofs.YtbnjijffkjcmcaaDoor.AL
open Go
attribute [local simp] qf cv qbin ibin sbin qun retPost rvOk ctV ctPost marksOk retV resAll resOf V.lt ltL V.ren renL V.exp V.exp1 cleanL V.clean closedL V.closed V.cells V.one V.tree
  loadV cellsAt isNC nilQ isSlD isIfD slNew ownRows ownCells V.isOwn slStore srcO qlook mlook mget mstr zval qnone qmake mput lmap isAggD placesOf fillV putCells lstore bound seqParts V.sh shL Blk.sh newV V.ok peqs peq srcRows qbytes byteSl appOk mmV mmR hidE V.fz fzL Blk.fz fzOk and_assoc
attribute [-simp] Int.not_le Int.not_lt Nat.not_le Nat.not_lt
/-! Groups in hexadecimal with colons; the string of an address of 128 bits. -/
def uOf : List V → Option Nat
  | [.int .u64 x] => if 0 ≤ x then some x.toNat else none
  | _ => none
theorem uOf_eq (r : List V) (n : Nat) (h : uOf r = some n) : r = [.int .u64 (n : Int)] := by
  unfold uOf at h
  split at h
  · split at h
    · cases h
      rename_i x hx
      rw [Int.toNat_of_nonneg hx]
    · cases h
  · cases h
theorem uRows_parse (L : List Nat) : parseRows uOf (uRows L) = some L := parse_map (row := fun x : Nat => [V.int .u64 (x : Int)]) (fun n => by simp [uOf]) L
noncomputable def SJnd : List V → Option Res
  | [.rd 1 rows] => match parseRows uOf rows with
    | some L => ifC ((∀ x ∈ L, x < 65536) ∧ L.length ≤ 8) (some ⟨.str (bs (hj L)), []⟩)
    | none => none
  | _ => none
theorem jnd_at {L : List Nat} (h : ∀ x ∈ L, x < 65536) (hl : L.length ≤ 8) : SJnd [.rd 1 (uRows L)] = some ⟨.str (bs (hj L)), []⟩ := by
  simp only [SJnd, uRows_parse]
  rw [ifC_pos ⟨h, hl⟩]
def jRows (L : List Nat) (k : Nat) : List (List V) := bRows ((L.take k).map (dgs 16))
theorem jRows_zero (L : List Nat) : jRows L 0 = [] := by simp [jRows, bRows]
theorem jRows_all (L : List Nat) : jRows L L.length = bRows (L.map (dgs 16)) := by simp [jRows]
theorem jRows_len {L : List Nat} {k : Nat} (h : k ≤ L.length) : (jRows L k).length = k := by simp [jRows, bRows]; omega
theorem jRows_snoc (L : List Nat) (k : Nat) (h : k < L.length) : jRows L k ++ [[.str (bs (dgs 16 L[k]))]] = jRows L (k + 1) := by
  unfold jRows
  rw [List.take_succ_eq_append_getElem h, List.map_append]
  unfold bRows
  rw [List.map_append]
  rfl
theorem runs_joined : ∀ args r, SJnd args = some r → Runs Tryd.prog 76 args r := by
  intro args r hh
  unfold SJnd ifC at hh
  split at hh
  · rename_i rows
    split at hh
    · rename_i L hL
      split at hh
      · rename_i hin
        obtain ⟨hx, hl8⟩ := hin
        have h1 : rows = uRows L := parse_eq uOf_eq hL
        subst h1
        cases hh
        have hjl := hj_len L hx
        have hj : SJoin [.rd 1 (bRows (L.map (dgs 16))), .str ⟨#[58]⟩] = some ⟨.str (bs (hj L)), []⟩ := join_at (sep := [58]) (by unfold hj at hjl; omega) (by simp; omega)
        have hT : ((T0.add 49 SFu).add 50 SJoin).ok Tryd.prog := Tab.add_ok (Tab.add_ok (T0_ok _) runs_Fu) runs_Join
        generalize AL.hj L = J at *
        refine Runs.of_body Tryd.func76 (by decide) rfl (by simp [Tryd.f76]) ?_
        refine W.seqE hT mixed M0 (by kernel_rfl) ?_
        simp [Tryd.f76]
        refine W.seqE hT mixed M0 (by kernel_rfl) ?_
        simp
        refine W.wk (Wk.adopt 3 1 9 (by omega) (by simp)) ?_
        refine W.cut True [(3, .own 0)] [.sl 1 9 (bRows (L.map (dgs 16)))] 20 ?_ ?_
        · refine W.seqE hT mixed M0 (by kernel_rfl) ?_
          simp
          refine W.block (W.for (fun _ => True) (fun k => [(3, .own 0), (6, .rd 1 (uRows L)), (7, .int .i64 L.length), (8, .int .i64 k)]) (fun k => [.sl 1 9 (jRows L k)]) 20 L.length trivial ?_ ?_)
          · simp [jRows_zero]
          · intro k hk _
            by_cases hlt : k < L.length
            · have hw1 : IntKind.i64.wrap ((k : Int) + 1) = k + 1 := wr_i64 (by omega) (by omega)
              have hf := fu_at (x := L[k]) (b := 16) (by have := hx _ (List.getElem_mem hlt); omega) (.inr rfl)
              have hsn := jRows_snoc L k hlt
              have hln := jRows_len (L := L) (k := k) (by omega)
              have hge : (uRows L)[k]'(by simpa using hlt) = [.int .u64 ((L[k] : Nat) : Int)] := uRows_getElem _ _ _
              rw [show ((16 : Nat) : Int) = 16 from rfl] at hf
              refine W.of_WE hT mixed M0 _ (by kernel_rfl) ?_
              simp [hlt, hge, hf, hw1]
              exact ⟨by omega, by omega, hsn⟩
            · have : k = L.length := by omega
              subst this
              refine W.of_WE hT mixed M0 _ (by kernel_rfl) ?_
              simp [jRows_all]
        intro _
        refine W.wk (Wk.freeze 0 (.sl 1 9 (bRows (L.map (dgs 16)))) (by simp) (by simp)) ?_
        refine W.of_WE hT mixed M0 _ (by kernel_rfl) ?_
        simp [hj]
      · cases hh
    · cases hh
  · cases hh
theorem grp_eq {x : Nat} {i : Nat} (hx : x < 18446744073709551616) (hi : i < 4) : grp (x : Int) i = (grpN x i : Int) := by
  unfold grp grpN
  have hp : (48 - 16 * (i : Int)) = ((48 - 16 * i : Nat) : Int) := by omega
  rw [hp, bShr_nat (by omega)]
  have e : ((x : Int) / 2 ^ (48 - 16 * i)) = ((x / 2 ^ (48 - 16 * i) : Nat) : Int) := by
    rw [Int.natCast_ediv, Int.natCast_pow]; rfl
  rw [e]
  have hlt : x / 2 ^ (48 - 16 * i) < 18446744073709551616 := Nat.lt_of_le_of_lt (Nat.div_le_self _ _) hx
  generalize x / 2 ^ (48 - 16 * i) = y at *
  rw [bAnd_u64' (by omega) (by omega) (by omega) (by omega)]
  have : (y : Int).toNat &&& (65535 : Int).toNat = y % 65536 := Nat.and_two_pow_sub_one_eq_mod y 16
  rw [this]
def gCells (L : List Nat) : List V := L.map fun x : Nat => .int .u64 (x : Int)
theorem grps_eq {h l : Nat} (hh : h < 18446744073709551616) (hl : l < 18446744073709551616) : grps (h : Int) (l : Int) = gCells (G8 h l) := by
  unfold grps gCells G8
  rw [grp_eq hh (by omega), grp_eq hh (by omega), grp_eq hh (by omega), grp_eq hh (by omega), grp_eq hl (by omega), grp_eq hl (by omega), grp_eq hl (by omega), grp_eq hl (by omega)]
  rfl
theorem zrun_nat : ∀ L : List Nat, zrun (L.map fun x : Nat => (x : Int)) = zrN L
  | [] => rfl
  | x :: L => by
    simp only [List.map_cons, zrun, zrN, zrun_nat L]
    by_cases h : x = 0
    · simp [h]
    · rw [if_neg h, if_neg (by omega)]
theorem run_at {L : List Nat} (h : L.length = 8) {i : Nat} (hi : i ≤ 8) : SRun [.int .i64 (i : Int), .rptr (gCells L) 0] = some ⟨.int .i64 (zrN (L.drop i) : Int), []⟩ := by
  match L, h with
  | [a, b, c, d, e, f, g, k], _ =>
    simp only [gCells, List.map_cons, List.map_nil, SRun]
    rw [if_pos ⟨by omega, by omega⟩]
    rw [← zrun_nat, List.map_drop]
    rfl
theorem chunk_g : ∀ (L : List Nat), chunkV 1 L.length (gCells L) = uRows L
  | [] => rfl
  | x :: L => by
    have := chunk_g L
    simp only [gCells] at this
    simp [gCells, uRows, chunkV, this]
noncomputable def SText6 : List V → Option Res
  | [.agg [.int .u64 h, .int .u64 l]] => ifC (0 ≤ h ∧ h < 18446744073709551616 ∧ 0 ≤ l ∧ l < 18446744073709551616) (some ⟨.str (bs (text6L (G8 h.toNat l.toNat))), []⟩)
  | _ => none
def M_f48 : Md := fun i => if i = 13 then some #[0, 1, 3, 7, 0, 0, 48, 112, 247, 511, 1023] else some #[]
@[simp] theorem M_f48_eq {i : Nat} : M_f48 i = (if i = 13 then some #[0, 1, 3, 7, 0, 0, 48, 112, 247, 511, 1023] else some #[]) := rfl
theorem runs_text6 : ∀ args r, SText6 args = some r → Runs Tryd.prog 48 args r := by
  intro args r hh
  unfold SText6 ifC at hh
  split at hh
  · rename_i h0 l0
    split at hh
    · rename_i hin
      obtain ⟨a1, a2, a3, a4⟩ := hin
      obtain ⟨h, rfl⟩ := Int.eq_ofNat_of_zero_le a1
      obtain ⟨l, rfl⟩ := Int.eq_ofNat_of_zero_le a3
      cases hh
      change Runs _ _ [.agg [.int .u64 (h : Int), .int .u64 (l : Int)]] ⟨.str (bs (text6L (G8 h l))), []⟩
      have hg : SGrps [.agg [.int .u64 (h : Int), .int .u64 (l : Int)]] = some ⟨.agg (gCells (G8 h l)), []⟩ := by
        simp only [SGrps]; rw [grps_eq (by omega) (by omega)]
      have hlt := G8_lt h l
      have hlen : (G8 h l).length = 8 := rfl
      have hgc : gCells (G8 h l) = [.int .u64 (grpN h 0 : Int), .int .u64 (grpN h 1 : Int), .int .u64 (grpN h 2 : Int), .int .u64 (grpN h 3 : Int), .int .u64 (grpN l 0 : Int), .int .u64 (grpN l 1 : Int), .int .u64 (grpN l 2 : Int), .int .u64 (grpN l 3 : Int)] := rfl
      have hT : (((T0.add 74 SGrps).add 75 SRun).add 76 SJnd).ok Tryd.prog := Tab.add_ok (Tab.add_ok (Tab.add_ok (T0_ok _) runs_groups) runs_run) runs_joined
      refine Runs.of_body Tryd.func48 (by decide) rfl (by simp [Tryd.f48]) ?_
      refine W.seqE hT mixed M_f48 (by kernel_rfl) ?_
      simp [Tryd.f48]
      refine W.cut True [(3, .ptr 0 0)] [.box 125 (gCells (G8 h l))] 38 ?_ ?_
      · refine W.of_WE hT mixed M_f48 _ (by kernel_rfl) ?_
        rw [hgc] at hg ⊢
        simp [hg]
      intro _
      refine W.wk (Wk.freeze 0 (.box 125 (gCells (G8 h l))) (by simp) (by rw [hgc]; simp)) ?_
      obtain ⟨L, hG⟩ : ∃ L, L = G8 h l := ⟨_, rfl⟩
      rw [← hG] at hlt hlen ⊢
      have hl8 : (gCells L).length = 8 := by simp [gCells, hlen]
      have hck : chunkV 1 8 (gCells L) = uRows L := by rw [← hlen]; exact chunk_g L
      refine W.seqE hT mixed M_f48 (by kernel_rfl) ?_
      simp
      refine W.seqE hT mixed M_f48 (by kernel_rfl) ?_
      simp
      have hb8 := fun k => lrun_le (L := L) hlen k
      refine W.cut True [(3, .rptr (gCells L) 0), (4, .int .i64 ((lrun L 8).1 : Int)), (5, .int .i64 ((lrun L 8).2 : Int))] [] 38 ?_ ?_
      · refine W.seqE hT mixed M_f48 (by kernel_rfl) ?_
        simp
        refine W.block (W.for (fun _ => True) (fun k => [(3, .rptr (gCells L) 0), (4, .int .i64 ((lrun L k).1 : Int)), (5, .int .i64 ((lrun L k).2 : Int)), (6, .fn 75 [] [.rptr (gCells L) 0]), (12, .int .i64 k)]) (fun _ => []) 38 8 trivial ?_ ?_)
        · simp [lrun]
        · intro k hk _
          have hw1 : IntKind.i64.wrap ((k : Int) + 1) = k + 1 := wr_i64 (by omega) (by omega)
          refine W.of_WE hT mixed M_f48 _ (by kernel_rfl) ?_
          by_cases hlt8 : k < 8
          · have hrun := run_at hlen (i := k) (by omega)
            have hlt' : (k : Int) < 8 := by omega
            have hst : lrun L (k + 1) = if (lrun L k).2 < zrN (L.drop k) then (k, zrN (L.drop k)) else lrun L k := rfl
            by_cases hm : (lrun L k).2 < zrN (L.drop k)
            · rw [if_pos hm] at hst
              have hm' : ((lrun L k).2 : Int) < (zrN (L.drop k) : Int) := by omega
              simp [hlt8, hlt', hrun, hw1, hst, hm, hm']
            · rw [if_neg hm] at hst
              have hm' : ¬ ((lrun L k).2 : Int) < (zrN (L.drop k) : Int) := by omega
              simp [hlt8, hlt', hrun, hw1, hst, hm, hm']
          · have : k = 8 := by omega
            subst this
            simp
      intro _
      have hb := hb8 8 (by omega)
      have htx : text6L L = if (lrun L 8).2 < 2 then hj L else hj (L.take (lrun L 8).1) ++ 58 :: 58 :: hj (L.drop ((lrun L 8).1 + (lrun L 8).2)) := rfl
      rw [htx]
      clear htx
      generalize (lrun L 8).1 = at' at *
      generalize (lrun L 8).2 = n at *
      have hj0 := jnd_at hlt (by omega)
      have hj1 := jnd_at (L := L.take at') (fun x hx => hlt x (List.mem_of_mem_take hx)) (by simp; omega)
      have hj2 := jnd_at (L := L.drop (at' + n)) (fun x hx => hlt x (List.mem_of_mem_drop hx)) (by simp; omega)
      have hl0 := hj_len L hlt
      have hl1 := hj_len (L.take at') (fun x hx => hlt x (List.mem_of_mem_take hx))
      have hl2 := hj_len (L.drop (at' + n)) (fun x hx => hlt x (List.mem_of_mem_drop hx))
      by_cases hn : n < 2
      · have hn' : (n : Int) < 2 := by omega
        rw [if_pos hn]
        generalize AL.hj L = J at *
        refine W.of_WE hT mixed M_f48 _ (by kernel_rfl) ?_
        simp [hn', hck, hl8, hj0]
        decide
      · have hn' : ¬ (n : Int) < 2 := by omega
        rw [if_neg hn]
        generalize AL.hj (L.take at') = J1 at *
        generalize AL.hj (L.drop (at' + n)) = J2 at *
        have hw2 : IntKind.i64.wrap ((at' : Int) + n) = at' + n := wr_i64 (by omega) (by omega)
        have hw3 : ((at' : Int) + n).toNat = at' + n := by omega
        have ht1 : List.take at' (uRows L) = uRows (List.take at' L) := by simp [uRows, List.map_take]
        have ht2 : List.drop (at' + n) (uRows L) = uRows (List.drop (at' + n) L) := by simp [uRows, List.map_drop]
        have ht3 : List.take (8 - (at' + n)) (uRows (List.drop (at' + n) L)) = uRows (List.drop (at' + n) L) := List.take_of_length_le (by simp; omega)
        have hmx : 8 ≤ maxLen := by decide
        have ha8 : (at' : Int) ≤ 8 := by omega
        have ha9 : (at' : Int) + n ≤ 8 := by omega
        have ha0 : (0 : Int) ≤ (at' : Int) + n := by omega
        have hc1 : bs J1 ++ ⟨#[58, 58]⟩ = bs (J1 ++ [58, 58]) := bs_append J1 [58, 58]
        have hc2 : bs (J1 ++ [58, 58]) ++ bs J2 = bs (J1 ++ 58 :: 58 :: J2) := by rw [bs_append]; simp
        have hz : (⟨#[58, 58]⟩ : ByteArray).size = 2 := rfl
        have hz1 : ((bs J1).size : Int) + 2 ≤ 9223372036854775807 := by rw [bs_size]; simp at hl1; omega
        have hz2 : ((bs (J1 ++ [58, 58])).size : Int) + (bs J2).size ≤ 9223372036854775807 := by rw [bs_size, bs_size]; simp at hl1 hl2 ⊢; omega
        refine W.of_WE hT mixed M_f48 _ (by kernel_rfl) ?_
        simp [hn', hck, hl8, hw2, hw3, ht1, ht2, ht3, hj1, hj2, hmx, ha8, ha9, ha0, hc1, hc2, hz, hz1, hz2]
    · cases hh
  · cases hh

end Go.Proofs.YtbnjijffkjcmcaaDoor.AL
namespace Go.Proofs.YtbnjijffkjcmcaaDoor.AL
open Go
attribute [local simp] qf cv qbin ibin sbin qun retPost rvOk ctV ctPost marksOk retV resAll resOf V.lt ltL V.ren renL V.exp V.exp1 cleanL V.clean closedL V.closed V.cells V.one V.tree
  loadV cellsAt isNC nilQ isSlD isIfD slNew ownRows ownCells V.isOwn slStore srcO qlook mlook mget mstr zval qnone qmake mput lmap isAggD placesOf fillV putCells lstore bound seqParts V.sh shL Blk.sh newV V.ok peqs peq srcRows qbytes byteSl appOk mmV mmR hidE V.fz fzL Blk.fz fzOk and_assoc
attribute [-simp] Int.not_le Int.not_lt Nat.not_le Nat.not_lt
/-! The string of an address. -/
theorem by4_eq {l i : Nat} (hl : l < 18446744073709551616) (hi : i < 4) : bAnd .u64 (bShr .u64 (l : Int) (24 - 8 * (i : Int))) 255 = (b4 l i : Int) := by
  unfold b4
  have hp : (24 - 8 * (i : Int)) = ((24 - 8 * i : Nat) : Int) := by omega
  rw [hp, bShr_nat (by omega)]
  have e : ((l : Int) / 2 ^ (24 - 8 * i)) = ((l / 2 ^ (24 - 8 * i) : Nat) : Int) := by
    rw [Int.natCast_ediv, Int.natCast_pow]; rfl
  rw [e]
  have hlt : l / 2 ^ (24 - 8 * i) < 18446744073709551616 := Nat.lt_of_le_of_lt (Nat.div_le_self _ _) hl
  generalize l / 2 ^ (24 - 8 * i) = y at *
  rw [bAnd_u64' (by omega) (by omega) (by omega) (by omega)]
  have : (y : Int).toNat &&& (255 : Int).toNat = y % 256 := Nat.and_two_pow_sub_one_eq_mod y 8
  rw [this]
def kRows (l k : Nat) : List (List V) := bRows ((List.range k).map fun i => dgs 10 (b4 l i))
theorem kRows_zero (l : Nat) : kRows l 0 = [] := rfl
theorem kRows_len (l k : Nat) : (kRows l k).length = k := by simp [kRows, bRows]
theorem kRows_snoc (l k : Nat) : kRows l k ++ [[.str (bs (dgs 10 (b4 l k)))]] = kRows l (k + 1) := by
  unfold kRows
  rw [List.range_succ, List.map_append]
  unfold bRows
  rw [List.map_append]
  rfl
theorem kRows_four (l : Nat) : kRows l 4 = bRows [dgs 10 (b4 l 0), dgs 10 (b4 l 1), dgs 10 (b4 l 2), dgs 10 (b4 l 3)] := rfl
noncomputable def SAddrT : List V → Option Res
  | [.int .u8 f, .agg [.int .u64 h, .int .u64 l]] => ifC ((0 ≤ h ∧ h < 18446744073709551616) ∧ 0 ≤ l ∧ l < 18446744073709551616)
      (some ⟨if cAddr f h l = true then .tup [.str (bs (addrT f.toNat h.toNat l.toNat)), .int .i64 0] else .tup [.str (bs []), .int .i64 2], []⟩)
  | _ => none
theorem addrT_at {f : Int} {h l : Nat} (hh : h < 18446744073709551616) (hl : l < 18446744073709551616) : SAddrT [.int .u8 f, .agg [.int .u64 (h : Int), .int .u64 (l : Int)]] =
    some ⟨if cAddr f h l = true then .tup [.str (bs (addrT f.toNat h l)), .int .i64 0] else .tup [.str (bs []), .int .i64 2], []⟩ := by
  simp only [SAddrT]
  rw [ifC_pos ⟨⟨by omega, by omega⟩, by omega, by omega⟩]
  rfl
theorem cAddr_or {f : Int} {h l : Nat} (hc : cAddr f h l = true) (hh : h < 18446744073709551616) (hl : l < 18446744073709551616) : vA f.toNat h l ∧ (f = 6 ∨ f = 4) := by
  unfold cAddr at hc
  rw [Bool.or_eq_true, Bool.and_eq_true, Bool.and_eq_true, beq_iff_eq, beq_iff_eq, beq_iff_eq, decide_eq_true_eq] at hc
  rcases hc with hc | ⟨⟨hc, h1⟩, h2⟩
  · exact ⟨.inl ⟨by omega, hh, hl⟩, .inl hc⟩
  · exact ⟨.inr ⟨by omega, by omega, by omega⟩, .inr hc⟩
theorem runs_AddrText : ∀ args r, SAddrT args = some r → Runs Tryd.prog 17 args r := by
  intro args r hh
  unfold SAddrT ifC at hh
  split at hh
  · rename_i f h0 l0
    split at hh
    · rename_i hin
      obtain ⟨⟨a1, a2⟩, a3, a4⟩ := hin
      obtain ⟨h, rfl⟩ := Int.eq_ofNat_of_zero_le a1
      obtain ⟨l, rfl⟩ := Int.eq_ofNat_of_zero_le a3
      cases hh
      rw [Int.toNat_natCast, Int.toNat_natCast]
      have hT : ((((T0.add 31 SAddr).add 49 SFu).add 50 SJoin).add 48 SText6).ok Tryd.prog := Tab.add_ok (Tab.add_ok (Tab.add_ok (Tab.add_ok (T0_ok _) runs_number_CheckAddr) runs_Fu) runs_Join) runs_text6
      cases hca : cAddr f h l with
      | false =>
        rw [if_neg (by simp)]
        refine Runs.of_body Tryd.func17 (by decide) rfl (by simp [Tryd.f17]) ?_
        refine W.seqE hT mixed M0 (by kernel_rfl) ?_
        simp [Tryd.f17]
        refine W.cut False [] [] 33 ?_ (fun h => h.elim)
        refine W.of_WE hT mixed M0 _ (by kernel_rfl) ?_
        simp [Tryd.f17, SAddr, hca]
        rfl
      | true =>
        rw [if_pos rfl]
        obtain ⟨hv, hf⟩ := cAddr_or hca (by omega) (by omega)
        rcases hf with rfl | rfl
        · have ht : SText6 [.agg [.int .u64 (h : Int), .int .u64 (l : Int)]] = some ⟨.str (bs (text6L (G8 h l))), []⟩ := by
            simp only [SText6]
            rw [ifC_pos ⟨by omega, by omega, by omega, by omega⟩]
            rfl
          have e : addrT (6 : Int).toNat h l = text6L (G8 h l) := rfl
          rw [e]
          generalize text6L (G8 h l) = TX at *
          refine Runs.of_body Tryd.func17 (by decide) rfl (by simp [Tryd.f17]) ?_
          refine W.seqE hT mixed M0 (by kernel_rfl) ?_
          simp [Tryd.f17]
          refine W.seqE hT mixed M0 (by kernel_rfl) ?_
          simp [Tryd.f17, SAddr, hca]
          refine W.cut False [] [] 33 ?_ (fun h => h.elim)
          refine W.of_WE hT mixed M0 _ (by kernel_rfl) ?_
          simp [Tryd.f17, ht]
        · have h0 : h = 0 ∧ l < 4294967296 := by
            rcases hv with ⟨e, _⟩ | ⟨_, e1, e2⟩
            · exact absurd e (by decide)
            · exact ⟨e1, e2⟩
          obtain ⟨rfl, hl⟩ := h0
          have hca' : cAddr 4 0 (l : Int) = true := hca
          have e : addrT (4 : Int).toNat 0 l = t4 l := rfl
          rw [e]
          have hjl := t4_len l
          have hj : SJoin [.rd 1 (kRows l 4), .str ⟨#[46]⟩] = some ⟨.str (bs (t4 l)), []⟩ := by
            rw [kRows_four]
            exact join_at (sep := [46]) (by unfold t4 at hjl; omega) (by simp)
          generalize t4 l = TX at *
          refine Runs.of_body Tryd.func17 (by decide) rfl (by simp [Tryd.f17]) ?_
          refine W.seqE hT mixed M0 (by kernel_rfl) ?_
          simp [Tryd.f17]
          refine W.seqE hT mixed M0 (by kernel_rfl) ?_
          simp [Tryd.f17, SAddr, hca']
          refine W.seqE hT mixed M0 (by kernel_rfl) ?_
          simp [Tryd.f17]
          refine W.seqE hT mixed M0 (by kernel_rfl) ?_
          simp [Tryd.f17]
          refine W.wk (Wk.adopt 6 1 9 (by omega) (by simp)) ?_
          refine W.cut True [(6, .own 0)] [.sl 1 9 (kRows l 4)] 33 ?_ ?_
          · refine W.seqE hT mixed M0 (by kernel_rfl) ?_
            simp [Tryd.f17]
            refine W.block (W.for (fun k => True) (fun k => [(3, .ptr 0 0), (6, .own 1), (16, .int .i64 k)]) (fun k => [.box 24 [.int .u64 0, .int .u64 (l : Int)], .sl 1 9 (kRows l k)]) 33 4 trivial ?_ ?_)
            · simp [kRows_zero]
            · intro k hk _
              refine W.of_WE hT mixed M0 _ (by kernel_rfl) ?_
              by_cases hlt : k < 4
              · have hlt' : (k : Int) < 4 := by omega
                have hw1 : IntKind.i64.wrap ((k : Int) + 1) = k + 1 := wr_i64 (by omega) (by omega)
                have hw2 : IntKind.i64.wrap (8 * (k : Int)) = 8 * k := wr_i64 (by omega) (by omega)
                have hw3 : IntKind.i64.wrap (24 - 8 * (k : Int)) = 24 - 8 * k := wr_i64 (by omega) (by omega)
                have hp : (0 : Int) ≤ 24 - 8 * (k : Int) := by omega
                have hby := by4_eq (l := l) (by omega) hlt
                have hf := fu_at (x := b4 l k) (b := 10) (by have := b4_lt l k; omega) (.inl rfl)
                rw [show ((10 : Nat) : Int) = 10 from rfl] at hf
                have hsn := kRows_snoc l k
                have hln := kRows_len l k
                simp [hlt, hlt', hw1, hw2, hw3, hp, hby, hf]
                exact ⟨by omega, by omega, by omega, hsn⟩
              · have : k = 4 := by omega
                subst this
                simp
          · intro _
            refine W.wk (Wk.freeze 0 (.sl 1 9 (kRows l 4)) (by simp) (by simp [kRows_four, bRows])) ?_
            refine W.of_WE hT mixed M0 _ (by kernel_rfl) ?_
            simp [Tryd.f17, hj]
    · cases hh
  · cases hh

end Go.Proofs.YtbnjijffkjcmcaaDoor.AL
