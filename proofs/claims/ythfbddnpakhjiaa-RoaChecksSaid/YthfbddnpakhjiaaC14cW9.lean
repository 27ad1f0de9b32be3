import Derived.Test.YthfbddnpakhjiaaC14cW8
import Derived.Test.YthfbddnpakhjiaaC14cAL4
/- What single functions compute: a part of the proof; no conditions. -/
set_option linter.unusedVariables false
set_option linter.unusedSimpArgs false
set_option maxRecDepth 100000
set_option linter.unusedSectionVars false
namespace Go.Proofs.Ythfbddnpakhjiaa.AL
open Go
attribute [local simp] qf cv qbin ibin sbin qun retPost rvOk ctV ctPost marksOk retV resAll resOf V.lt ltL V.ren renL V.exp V.exp1 cleanL V.clean closedL V.closed V.cells V.one V.tree
  loadV cellsAt isNC nilQ isSlD isIfD slNew ownRows ownCells V.isOwn slStore srcO qlook mlook mget mstr zval qnone qmake mput lmap isAggD placesOf fillV putCells lstore bound seqParts V.sh shL Blk.sh newV V.ok peqs peq srcRows appOk mmV mmR hidE V.fz fzL Blk.fz fzOk and_assoc
attribute [-simp] Int.not_le Int.not_lt Nat.not_le Nat.not_lt
instance : DecidableEq AP := fun a b => decidable_of_iff (a.f = b.f ∧ a.h = b.h ∧ a.l = b.l ∧ a.n = b.n ∧ a.m = b.m) (by cases a; cases b; simp)

def SEqAP : List V → Option Res
  | [.rd 5 r1, .rd 5 r2] => match apsOf r1, apsOf r2 with
    | some a, some b => if a.length ≤ 1000000 ∧ b.length ≤ 1000000 then some ⟨.bool (decide (a = b)), []⟩ else none
    | _, _ => none
  | _ => none
def M_f70 : Md := fun i => if i = 6 then some #[0, 0, 3, 7, 0, 0, 48, 112, 255] else some #[]
@[simp] theorem M_f70_eq {i : Nat} : M_f70 i = (if i = 6 then some #[0, 0, 3, 7, 0, 0, 48, 112, 255] else some #[]) := rfl
theorem runs_Equal_AP : ∀ args r, SEqAP args = some r → Runs Try.prog 70 args r := by
  intro args r hh
  unfold SEqAP at hh
  split at hh
  · rename_i r1 r2
    split at hh
    · rename_i a b ha hb
      split at hh
      · rename_i hin
        cases hh
        have h1 := apsOf_eq ha
        have h2 := apsOf_eq hb
        subst h1 h2
        refine Runs.of_body Try.func70 (by decide) rfl (by simp [Try.f70]) ?_
        refine W.seqE (T0_ok _) mixed M_f70 (by kernel_rfl) ?_
        simp [Try.f70]
        by_cases hlen : a.length = b.length
        · refine W.cut True [(0, .rd 5 (a.map AP.row)), (1, .rd 5 (b.map AP.row))] [] 26 ?_ ?_
          · refine W.of_WE (T0_ok _) mixed M_f70 _ (by kernel_rfl) ?_
            simp [Try.f70, hlen]
          · intro _
            refine W.cut (a = b) [] [] 26 ?_ ?_
            · refine W.seqE (T0_ok _) mixed M_f70 (by kernel_rfl) ?_
              simp [Try.f70]
              refine W.block (W.for (fun k => a.take k = b.take k) (fun k => [(0, .rd 5 (a.map AP.row)), (1, .rd 5 (b.map AP.row)), (12, .int .i64 a.length), (13, .int .i64 k)]) (fun k => []) 26 a.length (by simp) ?_ ?_)
              · simp
              · intro k hk hJ
                refine W.of_WE (T0_ok _) mixed M_f70 _ (by kernel_rfl) ?_
                by_cases hlt : k < a.length
                · have hlb : k < b.length := by omega
                  have hw1 : IntKind.i64.wrap ((k : Int) + 1) = k + 1 := wr_i64 (by omega) (by omega)
                  by_cases he : a[k] = b[k]
                  · have hJ' : a.take (k + 1) = b.take (k + 1) := by rw [take_snoc' a k hlt, take_snoc' b k hlb, hJ, he]
                    simp [hlt, hlb, AP.row, he, hw1]
                    exact hJ'
                  · have hne : ¬ a = b := fun e => he (by subst e; rfl)
                    have hf : (((decide (a[k].f = b[k].f) && (decide (a[k].h = b[k].h) && decide (a[k].l = b[k].l))) && decide (a[k].n = b[k].n)) && decide (a[k].m = b[k].m)) = false := by
                      rw [Bool.eq_false_iff]
                      intro h
                      apply he
                      cases ea : a[k]; cases eb : b[k]
                      simp [ea, eb] at h
                      simp [h]
                    simp [hlt, hlb, AP.row, hf, hne]
                    intro e1 e2 e3 e4 e5; simp [e1, e2, e3, e4, e5] at hf
                · have : k = a.length := by omega
                  subst this
                  simp
                  rw [List.take_length, hlen, List.take_length] at hJ
                  exact hJ
            · intro he
              refine W.of_WE (T0_ok _) mixed M_f70 _ (by kernel_rfl) ?_
              simp [Try.f70, he]
        · have hne : ¬ a = b := fun e => hlen (by rw [e])
          refine W.cut False [] [] 26 ?_ (fun h => h.elim)
          refine W.of_WE (T0_ok _) mixed M_f70 _ (by kernel_rfl) ?_
          simp [Try.f70, hne, show ¬ ((a.length : Int) = b.length) by omega]
      · cases hh
    · cases hh
  · cases hh

/-- A nil list of resources, read as one without elements. -/
def nilN (sz : Nat) : V → V
  | .nils => .rd sz []
  | x => x
def nilR : V → V
  | .agg [a, b, c] => .agg [nilN 4 a, nilN 4 b, nilN 2 c]
  | x => x
theorem nilN_R {E : Env} (sz : Nat) {x : V} {v : Value} (h : R E x v) : R E (nilN sz x) v := by
  unfold nilN
  split
  · exact R_nils_rd sz h
  · exact h
theorem nilR_R {E : Env} {x : V} {v : Value} (h : R E x v) : R E (nilR x) v := by
  unfold nilR
  split
  · rename_i a b c
    simp only [R, RL] at h ⊢
    obtain ⟨ws, rfl, w1, ws1, rfl, g1, w2, ws2, rfl, g2, w3, ws3, rfl, g3, rfl⟩ := h
    exact ⟨_, rfl, _, _, rfl, nilN_R 4 g1, _, _, rfl, nilN_R 4 g2, _, _, rfl, nilN_R 2 g3, rfl⟩
  · exact h
theorem nilR_RL {E : Env} : ∀ (xs : List V) (vs : List Value), RL E xs vs → RL E (xs.map nilR) vs
  | [], vs, h => h
  | x :: xs, vs, h => by
    simp only [RL, List.map_cons] at h ⊢
    obtain ⟨v, vs', rfl, h1, h2⟩ := h
    exact ⟨v, vs', rfl, nilR_R h1, nilR_RL xs vs' h2⟩
theorem runs_nilR {P : Program} [Gl P] {f : FuncId} {S : List V → Option Res} (h : ∀ args r, S args = some r → Runs P f args r) : ∀ args r, S (args.map nilR) = some r → Runs P f args r :=
  fun args r hr => Runs.weak (fun E vs hv => nilR_RL args vs hv) (h _ _ hr)
def STwA : List V → Option Res
  | [.agg [.int .u32 w, .rd 5 rows]] => match apsOf rows with
    | some l => if l.length ≤ 1000 then some ⟨.agg [.int .u32 w, .own 0], [.sl 5 76 (l.map AP.row)]⟩ else none
    | none => none
  | _ => none
def M_f24 : Md := fun i => if i = 1 then some #[0, 1, 0, 0, 8, 28, 63, 127, 0, 0, 0, 0, 0, 0, 2] else some #[]
@[simp] theorem M_f24_eq {i : Nat} : M_f24 i = (if i = 1 then some #[0, 1, 0, 0, 8, 28, 63, 127, 0, 0, 0, 0, 0, 0, 2] else some #[]) := rfl
theorem runs_ref14_Twin : ∀ args r, STwA args = some r → Runs Try.prog 24 args r := by
  intro args r hh
  unfold STwA at hh
  split at hh
  · rename_i w rows
    split at hh
    · rename_i l hl
      split at hh
      · rename_i hlen
        cases hh
        have h1 := apsOf_eq hl
        subst h1
        refine Runs.of_body Try.func24 (by decide) rfl (by simp [Try.f24]) ?_
        refine W.of_WE (T0_ok _) mixed M_f24 _ (by kernel_rfl) ?_
        simp [Try.f24]
        omega
      · cases hh
    · cases hh
  · cases hh
def SSamA : List V → Option Res
  | [.agg [.int .u32 w, .rd 5 r1], .agg [.int .u32 w', .rd 5 r2]] => match apsOf r1, apsOf r2 with
    | some a, some b => if a.length ≤ 1000000 ∧ b.length ≤ 1000000 then some ⟨.bool (decide (w = w') && decide (a = b)), []⟩ else none
    | _, _ => none
  | _ => none
def M_f29 : Md := fun i => some #[]
@[simp] theorem M_f29_eq {i : Nat} : M_f29 i = (some #[]) := rfl
theorem runs_roa_Same : ∀ args r, SSamA args = some r → Runs Try.prog 29 args r := by
  intro args r hh
  unfold SSamA at hh
  split at hh
  · rename_i w r1 w' r2
    split at hh
    · rename_i a b ha hb
      split at hh
      · rename_i hin
        cases hh
        have hE : SEqAP [.rd 5 r1, .rd 5 r2] = some ⟨.bool (decide (a = b)), []⟩ := by
          simp only [SEqAP, ha, hb]; rw [if_pos hin]
        have hT : (T0.add 70 SEqAP).ok Try.prog := Tab.add_ok (T0_ok _) runs_Equal_AP
        refine Runs.of_body Try.func29 (by decide) rfl (by simp [Try.f29]) ?_
        refine W.of_WE hT mixed M_f29 _ (by kernel_rfl) ?_
        by_cases hw : w = w' <;> simp [Try.f29, hE, hw]
      · cases hh
    · cases hh
  · cases hh
theorem AP_ne {s t : AP} : ((decide (s.f = t.f) && (decide (s.h = t.h) && decide (s.l = t.l)) && decide (s.n = t.n)) && decide (s.m = t.m)) = true ↔ s = t := by
  cases s; cases t; simp [and_assoc]

end Go.Proofs.Ythfbddnpakhjiaa.AL
namespace Go.Proofs.Ythfbddnpakhjiaa.AL
open Go
attribute [local simp] qf cv qbin ibin sbin qun retPost rvOk ctV ctPost marksOk retV resAll resOf V.lt ltL V.ren renL V.exp V.exp1 cleanL V.clean closedL V.closed V.cells V.one V.tree
  loadV cellsAt isNC nilQ isSlD isIfD slNew ownRows ownCells V.isOwn slStore srcO qlook mlook mget mstr zval qnone qmake mput lmap isAggD placesOf fillV putCells lstore bound seqParts V.sh shL Blk.sh newV V.ok peqs peq srcRows appOk mmV mmR hidE V.fz fzL Blk.fz fzOk and_assoc
attribute [-simp] Int.not_le Int.not_lt Nat.not_le Nat.not_lt
def M_f18 : Md := fun i => if i = 6 then some #[0, 1, 0, 7, 15, 0, 32, 0, 224, 480, 1023] else some #[]
@[simp] theorem M_f18_eq {i : Nat} : M_f18 i = (if i = 6 then some #[0, 1, 0, 7, 15, 0, 32, 0, 224, 480, 1023] else some #[]) := rfl
theorem runs_ref14_Same : ∀ args r, SSamA args = some r → Runs Try.prog 18 args r := by
  intro args r hh
  unfold SSamA at hh
  split at hh
  · rename_i w r1 w' r2
    split at hh
    · rename_i a b ha hb
      split at hh
      · rename_i hin
        cases hh
        have h1 := apsOf_eq ha
        have h2 := apsOf_eq hb
        subst h1 h2
        refine Runs.of_body Try.func18 (by decide) rfl (by simp [Try.f18]) ?_
        refine W.seqE (T0_ok _) mixed M_f18 (by kernel_rfl) ?_
        simp [Try.f18]
        by_cases hwl : w = w' ∧ a.length = b.length
        · obtain ⟨hw, hlen⟩ := hwl
          subst hw
          refine W.cut True [(2, .ptr 0 0), (3, .ptr 1 0)] [.box 25 [.int .u32 w, .rd 5 (a.map AP.row)], .box 25 [.int .u32 w, .rd 5 (b.map AP.row)]] 38 ?_ ?_
          · refine W.of_WE (T0_ok _) mixed M_f18 _ (by kernel_rfl) ?_
            simp [Try.f18, hlen]
          intro _
          refine W.cut (a = b) [] [] 38 ?_ ?_
          · refine W.seqE (T0_ok _) mixed M_f18 (by kernel_rfl) ?_
            simp [Try.f18]
            refine W.block (W.for (fun k => a.take k = b.take k) (fun k => [(2, .ptr 0 0), (3, .ptr 1 0), (5, .int .i64 k)]) (fun k => [.box 25 [.int .u32 w, .rd 5 (a.map AP.row)], .box 25 [.int .u32 w, .rd 5 (b.map AP.row)]]) 38 a.length (by simp) ?_ ?_)
            · simp
            · intro k hk hJ
              refine W.of_WE (T0_ok _) mixed M_f18 _ (by kernel_rfl) ?_
              by_cases hlt : k < a.length
              · have hlb : k < b.length := by omega
                have hw1 : IntKind.i64.wrap ((k : Int) + 1) = k + 1 := wr_i64 (by omega) (by omega)
                by_cases he : a[k] = b[k]
                · have hJ' : a.take (k + 1) = b.take (k + 1) := by rw [take_snoc' a k hlt, take_snoc' b k hlb, hJ, he]
                  simp [hlt, hlb, AP.row, he, hw1]
                  exact hJ'
                · have hne : ¬ a = b := fun e => he (by subst e; rfl)
                  have hf : (((decide (a[k].f = b[k].f) && (decide (a[k].h = b[k].h) && decide (a[k].l = b[k].l))) && decide (a[k].n = b[k].n)) && decide (a[k].m = b[k].m)) = false := by
                    rw [Bool.eq_false_iff]
                    intro h
                    apply he
                    cases ea : a[k]; cases eb : b[k]
                    simp [ea, eb] at h
                    simp [h]
                  simp [hlt, hlb, AP.row, hf, hne]
                  intro e1 e2 e3 e4 e5; simp [e1, e2, e3, e4, e5] at hf
              · have : k = a.length := by omega
                subst this
                simp
                rw [List.take_length, hlen, List.take_length] at hJ
                exact hJ
          · intro he
            refine W.of_WE (T0_ok _) mixed M_f18 _ (by kernel_rfl) ?_
            simp [Try.f18, he]
        · have hne : (decide (w = w') && decide (a = b)) = false := by
            rw [Bool.eq_false_iff]
            intro h
            simp only [Bool.and_eq_true, decide_eq_true_eq] at h
            exact hwl ⟨h.1, by rw [h.2]⟩
          refine W.cut False [] [] 38 ?_ (fun h => h.elim)
          refine W.of_WE (T0_ok _) mixed M_f18 _ (by kernel_rfl) ?_
          by_cases hw : w = w'
          · have hl : ¬ (a.length : Int) = b.length := fun e => hwl ⟨hw, by omega⟩
            have hab : ¬ a = b := fun e => hl (by rw [e])
            simp [Try.f18, hw, hl, hab]
          · simp [Try.f18, hw]
      · cases hh
    · cases hh
  · cases hh
/-- An origin's cells. -/
def oRow (w : Int) (a : AP) : List V := [.int .u32 w, .int .u8 a.f, .int .u64 a.h, .int .u64 a.l, .int .i64 a.n, .int .i64 a.m]
def oRows (w : Int) (l : List AP) : List (List V) := l.map (oRow w)
theorem oRows_len (w : Int) (l : List AP) : (oRows w l).length = l.length := by simp [oRows]
def M_f31 : Md := fun i => if i = 6 then some #[0, 0, 3, 7, 0, 0, 48, 112, 255] else some #[]
@[simp] theorem M_f31_eq {i : Nat} : M_f31 i = (if i = 6 then some #[0, 0, 3, 7, 0, 0, 48, 112, 255] else some #[]) := rfl
theorem runs_ref14_SameOrigins (w : Int) (l : List AP) (hl : l.length ≤ 1000000) : Runs Try.prog 31 [.rd 6 (oRows w l), .rd 6 (oRows w l)] ⟨.bool true, []⟩ := by
  refine Runs.of_body Try.func31 (by decide) rfl (by simp [Try.f31]) ?_
  refine W.seqE (T0_ok _) mixed M_f31 (by kernel_rfl) ?_
  simp [Try.f31]
  refine W.seqE (T0_ok _) mixed M_f31 (by kernel_rfl) ?_
  simp [Try.f31]
  refine W.cut True [] [] 26 ?_ ?_
  · refine W.seqE (T0_ok _) mixed M_f31 (by kernel_rfl) ?_
    simp [Try.f31]
    refine W.block (W.for (fun k => True) (fun k => [(0, .rd 6 (oRows w l)), (1, .rd 6 (oRows w l)), (5, .int .i64 k)]) (fun k => []) 26 l.length trivial ?_ ?_)
    · simp
    · intro k hk _
      refine W.of_WE (T0_ok _) mixed M_f31 _ (by kernel_rfl) ?_
      by_cases hlt : k < l.length
      · have hw1 : IntKind.i64.wrap ((k : Int) + 1) = k + 1 := wr_i64 (by omega) (by omega)
        simp [hlt, hw1, oRows, oRow]
      · have : k = l.length := by omega
        subst this
        simp [oRows]
  · intro _
    refine W.of_WE (T0_ok _) mixed M_f31 _ (by kernel_rfl) ?_
    simp [Try.f31]
def SOri1 : List V → Option Res
  | [.agg r, .rptr [.int .u32 w, .rd 5 rows] 0] => match apOf r with
    | some a => some ⟨.tup [.agg (oRow w a), .bool true], []⟩
    | none => none
  | _ => none
theorem runs_roa_Origins_1 : ∀ args r, SOri1 args = some r → Runs Try.prog 56 args r := by
  intro args r hh
  unfold SOri1 at hh
  split at hh
  · rename_i r w rows
    split at hh
    · rename_i a ha
      cases hh
      have h1 := apOf_eq ha
      subst h1
      refine Runs.of_body Try.func56 (by decide) rfl (by simp [Try.f56]) ?_
      refine W.of_WE (T0_ok _) mixed M0 _ (by kernel_rfl) ?_
      simp [Try.f56, AP.row, oRow]
    · cases hh
  · cases hh
/-- An element's span. -/
def spA (a : AP) : SP := ⟨a.h, a.l, (lastA a.h a.l (widN a.f - a.n.toNat)).1, (lastA a.h a.l (widN a.f - a.n.toNat)).2⟩
def SNee2 : List V → Option Res
  | [.agg r, .rptr [.int .u8 f] 0] => match apOf r with
    | some a => if inAP a then (if chkP a.f a.h a.l a.n = 0 then some ⟨.tup [.agg (spA a).row, .bool (decide (a.f = f))], []⟩ else none) else none
    | none => none
  | _ => none
def M_f63 : Md := fun i => if i = 2 then some #[0, 0, 2, 6, 14, 30, 62, 14, 254, 510, 15, 2047, 87112285931760246650165674364684896043008, 0, 0, 0, 0, 0, 0, 0, 0, 0, 0, 192] else some #[]
@[simp] theorem M_f63_eq {i : Nat} : M_f63 i = (if i = 2 then some #[0, 0, 2, 6, 14, 30, 62, 14, 254, 510, 15, 2047, 87112285931760246650165674364684896043008, 0, 0, 0, 0, 0, 0, 0, 0, 0, 0, 192] else some #[]) := rfl
theorem runs_roa_Needs_1_1 : ∀ args r, SNee2 args = some r → Runs Try.prog 63 args r := by
  intro args r hh
  unfold SNee2 at hh
  split at hh
  · rename_i r f
    split at hh
    · rename_i a ha
      split at hh
      · rename_i hin
        split at hh
        · rename_i hc
          cases hh
          have h1 := apOf_eq ha
          subst h1
          have hof : SOf [.agg [.int .u8 a.f, .int .u64 a.h, .int .u64 a.l, .int .i64 a.n]] = some ⟨.tup [.agg [.int .u64 (spA a).h, .int .u64 (spA a).l, .int .u64 (spA a).h', .int .u64 (spA a).l'], .int .i64 0], []⟩ := by
            simp only [SOf]; rw [if_pos ⟨hin.2.2.1, hin.2.2.2.1, hin.2.2.2.2.1, hin.2.2.2.2.2.1⟩, if_pos hc]; rfl
          have hT : (T0.add 64 SOf).ok Try.prog := Tab.add_ok (T0_ok _) runs_span_Of
          refine Runs.of_body Try.func63 (by decide) rfl (by simp [Try.f63]) ?_
          refine W.of_WE hT mixed M_f63 _ (by kernel_rfl) ?_
          simp [Try.f63, AP.row, hof, SP.row]
        · cases hh
      · cases hh
    · cases hh
  · cases hh

end Go.Proofs.Ythfbddnpakhjiaa.AL
namespace Go.Proofs.Ythfbddnpakhjiaa.AL
open Go
attribute [local simp] qf cv qbin ibin sbin qun retPost rvOk ctV ctPost marksOk retV resAll resOf V.lt ltL V.ren renL V.exp V.exp1 cleanL V.clean closedL V.closed V.cells V.one V.tree
  loadV cellsAt isNC nilQ isSlD isIfD slNew ownRows ownCells V.isOwn slStore srcO qlook mlook mget mstr zval qnone qmake mput lmap isAggD placesOf fillV putCells lstore bound seqParts V.sh shL Blk.sh newV V.ok peqs peq srcRows appOk mmV mmR hidE V.fz fzL Blk.fz fzOk and_assoc
attribute [-simp] Int.not_le Int.not_lt Nat.not_le Nat.not_lt
def SColO : List V → Option Res
  | [.rd 5 rows, .fn 56 [] [.rptr [.int .u32 w, .rd 5 rows'] 0]] => match apsOf rows with
    | some l => if l.length ≤ 1000 then some ⟨.own 0, [.sl 6 58 (oRows w l)]⟩ else none
    | none => none
  | _ => none
theorem runs_collect_O : ∀ args r, SColO args = some r → Runs Try.prog 55 args r := by
  intro args r hh
  unfold SColO at hh
  split at hh
  · rename_i rows w rows'
    split at hh
    · rename_i l hl
      split at hh
      · rename_i hlen
        cases hh
        have h1 := apsOf_eq hl
        subst h1
        have hT : (T0.add 56 SOri1).ok Try.prog := Tab.add_ok (T0_ok _) runs_roa_Origins_1
        refine Runs.of_body Try.func55 (by decide) rfl (by simp [Try.f55]) ?_
        refine W.seqE hT mixed M0 (by kernel_rfl) ?_
        simp [Try.f55]
        refine W.seqE hT mixed M0 (by kernel_rfl) ?_
        simp [Try.f55]
        refine W.wk (Wk.adopt 5 6 58 (by omega) (by simp)) ?_
        refine W.cut True [(5, .own 0)] [.sl 6 58 (oRows w l)] 29 ?_ ?_
        · refine W.seqE hT mixed M0 (by kernel_rfl) ?_
          simp [Try.f55]
          refine W.block (W.for (fun _ => True) (fun k => [(1, .fn 56 [] [.rptr [.int .u32 w, .rd 5 rows'] 0]), (5, .own 0), (10, .rd 5 (l.map AP.row)), (11, .int .i64 l.length), (12, .int .i64 k)]) (fun k => [.sl 6 58 (oRows w (l.take k))]) 29 l.length trivial ?_ ?_)
          · simp [oRows]
          · intro k hk _
            refine W.of_WE hT mixed M0 _ (by kernel_rfl) ?_
            by_cases hlt : k < l.length
            · have hw1 : IntKind.i64.wrap ((k : Int) + 1) = k + 1 := wr_i64 (by omega) (by omega)
              have hsn : oRows w (l.take (k + 1)) = oRows w (l.take k) ++ [oRow w l[k]] := by
                rw [take_snoc' l k hlt]; unfold oRows; rw [List.map_append]; rfl
              have hlk : (oRows w (l.take k)).length ≤ 1000000 := by rw [oRows_len]; simp; omega
              generalize oRows w (l.take k) = R at *
              simp [hlt, hw1, AP.row, SOri1, apOf, oRow]
              simp [oRow] at hsn
              rw [hsn]
              exact ⟨by omega, by omega, rfl⟩
            · have : k = l.length := by omega
              subst this
              simp
        · intro _
          refine W.of_WE hT mixed M0 _ (by kernel_rfl) ?_
          simp [Try.f55]
      · cases hh
    · cases hh
  · cases hh
/-- The spans of the elements of one family. -/
def selF (f : Int) (l : List AP) : List SP := (l.filter fun a => decide (a.f = f)).map spA
theorem selF_snoc {f : Int} {l : List AP} {k : Nat} (h : k < l.length) : selF f (l.take (k + 1)) = if l[k].f = f then selF f (l.take k) ++ [spA l[k]] else selF f (l.take k) := by
  rw [take_snoc' l k h]
  unfold selF
  rw [List.filter_append, List.map_append]
  by_cases hf : l[k].f = f <;> simp [hf]
theorem selF_len (f : Int) (l : List AP) : (selF f l).length ≤ l.length := by
  unfold selF
  rw [List.length_map]
  exact List.length_filter_le _ _
def SColN : List V → Option Res
  | [.rd 5 rows, .fn 63 [] [.rptr [.int .u8 f] 0]] => match apsOf rows with
    | some l => if (∀ a ∈ l, inAP a ∧ chkP a.f a.h a.l a.n = 0) ∧ l.length ≤ 1000 then some ⟨.own 0, [.sl 4 79 (sRows (selF f l))]⟩ else none
    | none => none
  | _ => none
theorem runs_collect_N : ∀ args r, SColN args = some r → Runs Try.prog 62 args r := by
  intro args r hh
  unfold SColN at hh
  split at hh
  · rename_i rows f
    split at hh
    · rename_i l hl
      split at hh
      · rename_i hin
        obtain ⟨hin, hlen⟩ := hin
        cases hh
        have h1 := apsOf_eq hl
        subst h1
        have hT : (T0.add 63 SNee2).ok Try.prog := Tab.add_ok (T0_ok _) runs_roa_Needs_1_1
        refine Runs.of_body Try.func62 (by decide) rfl (by simp [Try.f62]) ?_
        refine W.seqE hT mixed M0 (by kernel_rfl) ?_
        simp [Try.f62]
        refine W.seqE hT mixed M0 (by kernel_rfl) ?_
        simp [Try.f62]
        refine W.wk (Wk.adopt 5 4 79 (by omega) (by simp)) ?_
        refine W.cut True [(5, .own 0)] [.sl 4 79 (sRows (selF f l))] 29 ?_ ?_
        · refine W.seqE hT mixed M0 (by kernel_rfl) ?_
          simp [Try.f62]
          refine W.block (W.for (fun _ => True) (fun k => [(1, .fn 63 [] [.rptr [.int .u8 f] 0]), (5, .own 0), (10, .rd 5 (l.map AP.row)), (11, .int .i64 l.length), (12, .int .i64 k)]) (fun k => [.sl 4 79 (sRows (selF f (l.take k)))]) 29 l.length trivial ?_ ?_)
          · simp [selF, sRows]
          · intro k hk _
            refine W.of_WE hT mixed M0 _ (by kernel_rfl) ?_
            by_cases hlt : k < l.length
            · have hw1 : IntKind.i64.wrap ((k : Int) + 1) = k + 1 := wr_i64 (by omega) (by omega)
              obtain ⟨ia, ca⟩ := hin l[k] (List.getElem_mem hlt)
              have hS : SNee2 [.agg [.int .u8 l[k].f, .int .u64 l[k].h, .int .u64 l[k].l, .int .i64 l[k].n, .int .i64 l[k].m], .rptr [.int .u8 f] 0] = some ⟨.tup [.agg [.int .u64 (spA l[k]).h, .int .u64 (spA l[k]).l, .int .u64 (spA l[k]).h', .int .u64 (spA l[k]).l'], .bool (decide (l[k].f = f))], []⟩ := by
                simp only [SNee2, apOf]
                rw [if_pos ia, if_pos ca]; rfl
              have hsn := selF_snoc (f := f) hlt
              have hlk : (sRows (selF f (l.take k))).length ≤ 1000000 := by
                rw [sRows_len]; have := selF_len f (l.take k); simp at this; omega
              by_cases hf : l[k].f = f
              · rw [if_pos hf] at hsn
                rw [decide_eq_true hf] at hS
                have hsr : sRows (selF f (l.take (k + 1))) = sRows (selF f (l.take k)) ++ [[.int .u64 (spA l[k]).h, .int .u64 (spA l[k]).l, .int .u64 (spA l[k]).h', .int .u64 (spA l[k]).l']] := by
                  rw [hsn]; simp [sRows, SP.row]
                generalize sRows (selF f (l.take k)) = R at *
                simp [hlt, hw1, AP.row, hS]
                rw [hsr]
                exact ⟨by omega, by omega, rfl⟩
              · rw [if_neg hf] at hsn
                rw [decide_eq_false hf] at hS
                simp [hlt, hw1, AP.row, hS, hsn]
            · have : k = l.length := by omega
              subst this
              simp
        · intro _
          refine W.of_WE hT mixed M0 _ (by kernel_rfl) ?_
          simp [Try.f62]
      · cases hh
    · cases hh
  · cases hh
def SNee1 : List V → Option Res
  | [.int .u8 f, .rptr [.int .u32 w, .rd 5 rows] 0] => match apsOf rows with
    | some l => if (∀ a ∈ l, inAP a ∧ chkP a.f a.h a.l a.n = 0) ∧ l.length ≤ 1000 then some ⟨.own 0, [.sl 4 79 (sRows (selF f l))]⟩ else none
    | none => none
  | _ => none
theorem runs_roa_Needs_1 : ∀ args r, SNee1 args = some r → Runs Try.prog 61 args r := by
  intro args r hh
  unfold SNee1 at hh
  split at hh
  · rename_i f w rows
    split at hh
    · rename_i l hl
      split at hh
      · rename_i hin
        cases hh
        have hS : SColN [.rd 5 rows, .fn 63 [] [.rptr [.int .u8 f] 0]] = some ⟨.own 0, [.sl 4 79 (sRows (selF f l))]⟩ := by
          simp only [SColN, hl]; rw [if_pos hin]
        have hT : (T0.add 62 SColN).ok Try.prog := Tab.add_ok (T0_ok _) runs_collect_N
        refine Runs.of_body Try.func61 (by decide) rfl (by simp [Try.f61]) ?_
        refine W.seqE hT mixed M0 (by kernel_rfl) ?_
        simp [Try.f61]
        refine W.wk (Wk.freeze 0 (.box 5 [.int .u8 f]) (by simp) (by simp)) ?_
        refine W.of_WE hT mixed M0 _ (by kernel_rfl) ?_
        simp [Try.f61, hS]
      · cases hh
    · cases hh
  · cases hh

end Go.Proofs.Ythfbddnpakhjiaa.AL
namespace Go.Proofs.Ythfbddnpakhjiaa.AL
open Go
/-- A nil slice that a box holds is a row of the call's own, with no element. -/
theorem Wk.adoptB {P : Program} [Gl P] {s : St} (b0 i : Nat) (sz : Nat) (ty : TypeId) {bt : TypeId} {cells : List V} (hsz : 0 < sz) (hb : s.hp b0 = some (.box bt cells)) (hi : cells[i]? = some .nils) :
    Wk P s (((s.setB b0 (.box bt (cells.set i (.own s.nx)))).setB s.nx (.sl sz ty [])).setN (s.nx + 1)) := by
  intro X E a hs
  obtain ⟨E', hE'⟩ : ∃ E' : Env, E' = { w := E.w, O := E.O, σ := upd E.σ s.nx (.slice none 0 0), D := fun b => E.D b ∨ b = s.nx } := ⟨_, rfl⟩
  have hne : ∀ b, E.D b → b ≠ s.nx := fun b hb => by have := hs.nx b hb; omega
  have hle : E.le E' := by
    subst hE'
    exact ⟨fun b h => .inl h, fun b h => upd_other _ _ (hne b h), Nat.le_refl _, fun _ _ h => ⟨rfl, h⟩⟩
  have hσn : E'.σ s.nx = .slice none 0 0 := by subst hE'; exact upd_same _ _ _
  have hw : E'.w = E.w := by subst hE'; rfl
  have hO : E'.O = E.O := by subst hE'; rfl
  have hD : ∀ b, E'.D b ↔ E.D b ∨ b = s.nx := fun b => by subst hE'; exact Iff.rfl
  have hbne : b0 ≠ s.nx := hne b0 (hs.hp.blk b0 _ hb).1
  have hBx : BRel X.F E' (E'.σ b0) (.box bt (cells.set i (.own s.nx))) := by
    obtain ⟨h1, h2⟩ := hs.hp.blk b0 _ hb
    have h3 := h2.keep (E' := E') hle (fun g hg => by rw [hO]; exact hg) (fun g _ => by rw [hw])
    rw [hle.σ b0 h1]
    simp only [BRel] at h3 ⊢
    obtain ⟨g, arr, hσ, hh, hR, h1, hF, hO1⟩ := h3
    refine ⟨g, arr, hσ, hh, ?_, h1, hF, hO1⟩
    obtain ⟨v, hv, hRv⟩ := RL.get hR hi
    simp only [R] at hRv
    have hR2 := RL.set (E := E') (c := .own s.nx) (v := v) (by simp only [R]; exact ⟨(hD _).2 (.inr rfl), hRv.trans hσn.symm, _, _, _, hRv⟩) i hR
    have e : arr.toList.set i v = arr.toList := by
      refine List.ext_getElem? fun k => ?_
      rw [List.getElem?_set]
      split
      · rename_i e; subst e
        split
        · exact hv.symm
        · rename_i h; rw [List.getElem?_eq_none (by omega)]
      · rfl
    rw [e] at hR2
    exact hR2
  have hH : HRel X.F E' (upd (upd s.hp b0 (some (.box bt (cells.set i (.own s.nx))))) s.nx (some (.sl sz ty []))) := by
    have old : ∀ b x, b ≠ s.nx → (upd s.hp b0 (some (.box bt (cells.set i (.own s.nx))))) b = some x → E.D b ∧ (∃ y, s.hp b = some y) ∧ BRel X.F E' (E'.σ b) x := by
      intro b x e hx
      by_cases e2 : b = b0
      · subst e2
        rw [upd_same] at hx
        cases hx
        exact ⟨(hs.hp.blk b _ hb).1, ⟨_, hb⟩, hBx⟩
      · rw [upd_other _ _ e2] at hx
        obtain ⟨h1, h2⟩ := hs.hp.blk b x hx
        refine ⟨h1, ⟨_, hx⟩, ?_⟩
        rw [hle.σ b h1]
        exact h2.keep hle (fun g hg => by rw [hO]; exact hg) (fun g _ => by rw [hw])
    refine ⟨fun b x hx => ?_, fun b b' x x' g hx hx' hg hg' => ?_⟩
    · by_cases e : b = s.nx
      · subst e
        simp only [upd_same, Option.some.injEq] at hx
        subst hx
        refine ⟨(hD _).2 (.inr rfl), ?_⟩
        rw [hσn]
        exact .inr ⟨rfl, hsz, none, rfl⟩
      · rw [upd_other _ _ e] at hx
        obtain ⟨h1, _, h2⟩ := old b x e hx
        exact ⟨(hD _).2 (.inl h1), h2⟩
    · by_cases e : b = s.nx
      · rw [e, hσn] at hg
        simp [blkOf] at hg
      · by_cases e' : b' = s.nx
        · rw [e', hσn] at hg'
          simp [blkOf] at hg'
        · rw [upd_other _ _ e] at hx
          rw [upd_other _ _ e'] at hx'
          obtain ⟨d1, ⟨y, hy⟩, _⟩ := old b x e hx
          obtain ⟨d2, ⟨y', hy'⟩, _⟩ := old b' x' e' hx'
          rw [hle.σ b d1] at hg
          rw [hle.σ b' d2] at hg'
          exact hs.hp.sep b b' y y' g hy hy' hg hg'
  refine ⟨E', hw, ⟨⟨⟨hH, fun g => R.mono hle _ _ (hs.gl g), by rw [hO]; exact hs.AO, by rw [hw]; exact hs.Fz, by rw [hO]; exact hs.OA, by rw [hO, hw]; exact hs.Oz⟩, hs.top, fun hk => X.Km E E' hle (hs.kp hk), hs.defers.mono hle, hs.nt, fun t' => R.mono hle _ _ (hs.tm t')⟩, fun b hb => ?_⟩⟩
  show b < s.nx + 1
  rcases (hD b).1 hb with h | h
  · have := hs.nx b h; omega
  · omega
end Go.Proofs.Ythfbddnpakhjiaa.AL
namespace Go.Proofs.Ythfbddnpakhjiaa.AL
open Go
attribute [local simp] qf cv qbin ibin sbin qun retPost rvOk ctV ctPost marksOk retV resAll resOf V.lt ltL V.ren renL V.exp V.exp1 cleanL V.clean closedL V.closed V.cells V.one V.tree
  loadV cellsAt isNC nilQ isSlD isIfD slNew ownRows ownCells V.isOwn slStore srcO qlook mlook mget mstr zval qnone qmake mput lmap isAggD placesOf fillV putCells lstore bound seqParts V.sh shL Blk.sh newV V.ok peqs peq srcRows appOk mmV mmR hidE V.fz fzL Blk.fz fzOk and_assoc
attribute [-simp] Int.not_le Int.not_lt Nat.not_le Nat.not_lt
theorem chkRoa_ok {l : List AP} (h : chkRoa l = 0) : l.length ≤ 100 ∧ 0 < l.length ∧ ∀ a ∈ l, chkP a.f a.h a.l a.n = 0 ∧ (a.f = 4 ∨ a.f = 6) := by
  unfold chkRoa at h
  split at h
  · omega
  · split at h
    · omega
    · split at h
      · rename_i h1 h2 hs
        refine ⟨by omega, by omega, fun a ha => ?_⟩
        obtain ⟨i, hi, rfl⟩ := List.getElem_of_mem ha
        unfold sndR at hs
        have := List.all_eq_true.1 hs i (List.mem_range.2 hi)
        unfold okJ at this
        rw [Bool.and_eq_true, ap_get hi] at this
        refine ⟨?_, (okAP_pos this.1).2.2⟩
        have h3 := this.1
        simp only [okAP, Bool.and_eq_true, decide_eq_true_eq] at h3
        exact h3.1
      · omega
def SOrg : List V → Option Res
  | [.agg [.int .u32 w, .rd 5 rows]] => match apsOf rows with
    | some l => if (∀ a ∈ l, inAP a) ∧ l.length ≤ 1000 then (if chkRoa l ≠ 0 then some ⟨.tup [.nils, .int .i64 (chkRoa l)], []⟩ else some ⟨.tup [.own 0, .int .i64 0], [.sl 6 58 (oRows w l)]⟩) else none
    | none => none
  | _ => none
theorem roa_at {w : Int} {l : List AP} (h : (∀ a ∈ l, inAP a) ∧ l.length ≤ 1000) : SRoa [.agg [.int .u32 w, .rd 5 (l.map AP.row)]] = some ⟨.int .i64 (chkRoa l), []⟩ := by
  simp only [SRoa, apsOf_map]; rw [if_pos h]
theorem runs_roa_Origins : ∀ args r, SOrg args = some r → Runs Try.prog 21 args r := by
  intro args r hh
  unfold SOrg at hh
  split at hh
  · rename_i w rows
    split at hh
    · rename_i l hl
      split at hh
      · rename_i hin
        have h1 := apsOf_eq hl
        subst h1
        have hc := roa_at (w := w) hin
        have hT : ((T0.add 20 SRoa).add 55 SColO).ok Try.prog := Tab.add_ok (Tab.add_ok (T0_ok _) runs_roa_Check) runs_collect_O
        have hS : SColO [.rd 5 (l.map AP.row), .fn 56 [] [.rptr [.int .u32 w, .rd 5 (l.map AP.row)] 0]] = some ⟨.own 0, [.sl 6 58 (oRows w l)]⟩ := by
          simp only [SColO, apsOf_map]; rw [if_pos hin.2]
        refine Runs.of_body Try.func21 (by decide) rfl (by simp [Try.f21]) ?_
        by_cases hz : chkRoa l = 0
        · rw [if_neg (by omega)] at hh
          cases hh
          rw [hz] at hc
          refine W.seqE hT mixed M0 (by kernel_rfl) ?_
          simp [Try.f21]
          refine W.cut True [(1, .ptr 0 0)] [.box 25 [.int .u32 w, .rd 5 (l.map AP.row)]] 14 ?_ ?_
          · refine W.of_WE hT mixed M0 _ (by kernel_rfl) ?_
            simp [Try.f21, hc]
          intro _
          refine W.wk (Wk.freeze 0 (.box 25 [.int .u32 w, .rd 5 (l.map AP.row)]) (by simp) (by simp)) ?_
          refine W.of_WE hT mixed M0 _ (by kernel_rfl) ?_
          simp [Try.f21, hS]
        · rw [if_pos hz] at hh
          cases hh
          refine W.of_WE hT mixed M0 _ (by kernel_rfl) ?_
          simp [Try.f21, hc, hz]
      · cases hh
    · cases hh
  · cases hh
def M_f27 : Md := fun i => if i = 8 then some #[0, 0, 2, 0, 8, 0, 56, 120, 248, 0, 512, 0, 3584, 7680, 15872, 32766, 65534, 131071, 262143] else some #[]
@[simp] theorem M_f27_eq {i : Nat} : M_f27 i = (if i = 8 then some #[0, 0, 2, 0, 8, 0, 56, 120, 248, 0, 512, 0, 3584, 7680, 15872, 32766, 65534, 131071, 262143] else some #[]) := rfl
theorem runs_ref14_Origins : ∀ args r, SOrg args = some r → Runs Try.prog 27 args r := by
  intro args r hh
  unfold SOrg at hh
  split at hh
  · rename_i w rows
    split at hh
    · rename_i l hl
      split at hh
      · rename_i hin
        have h1 := apsOf_eq hl
        subst h1
        have hc := roa_at (w := w) hin
        have hlen := hin.2
        have hT : (T0.add 28 SRoa).ok Try.prog := Tab.add_ok (T0_ok _) runs_ref14_Check
        refine Runs.of_body Try.func27 (by decide) rfl (by simp [Try.f27]) ?_
        by_cases hz : chkRoa l = 0
        · rw [if_neg (by omega)] at hh
          cases hh
          rw [hz] at hc
          refine W.seqE hT mixed M_f27 (by kernel_rfl) ?_
          simp [Try.f27]
          refine W.seqE hT mixed M_f27 (by kernel_rfl) ?_
          simp [hc]
          refine W.cut True [(1, .ptr 0 0)] [.box 25 [.int .u32 w, .rd 5 (l.map AP.row)]] 38 ?_ ?_
          · refine W.of_WE hT mixed M_f27 _ (by kernel_rfl) ?_
            simp
          intro _
          refine W.seqE hT mixed M_f27 (by kernel_rfl) ?_
          simp
          refine W.wk (Wk.adopt 5 6 58 (by omega) (by simp)) ?_
          refine W.cut True [(5, .own 0)] [.sl 6 58 (oRows w l)] 38 ?_ ?_
          · refine W.seqE hT mixed M_f27 (by kernel_rfl) ?_
            simp
            refine W.block (W.for (fun _ => True) (fun k => [(1, .ptr 0 0), (5, .own 1), (6, .int .i64 k)]) (fun k => [.box 25 [.int .u32 w, .rd 5 (l.map AP.row)], .sl 6 58 (oRows w (l.take k))]) 38 l.length trivial ?_ ?_)
            · simp [oRows]
            · intro k hk _
              refine W.of_WE hT mixed M_f27 _ (by kernel_rfl) ?_
              by_cases hlt : k < l.length
              · have hw1 : IntKind.i64.wrap ((k : Int) + 1) = k + 1 := wr_i64 (by omega) (by omega)
                have hsn : oRows w (l.take (k + 1)) = oRows w (l.take k) ++ [oRow w l[k]] := by
                  rw [take_snoc' l k hlt]; unfold oRows; rw [List.map_append]; rfl
                have hlk : (oRows w (l.take k)).length ≤ 1000000 := by rw [oRows_len]; simp; omega
                generalize oRows w (l.take k) = R at *
                simp [hlt, hw1, AP.row]
                simp [oRow] at hsn
                rw [hsn]
                exact ⟨by omega, by omega, rfl⟩
              · have : k = l.length := by omega
                subst this
                simp
          · intro _
            refine W.of_WE hT mixed M_f27 _ (by kernel_rfl) ?_
            simp [Try.f27]
        · rw [if_pos hz] at hh
          cases hh
          refine W.of_WE hT mixed M_f27 _ (by kernel_rfl) ?_
          simp [Try.f27, hc, hz]
      · cases hh
    · cases hh
  · cases hh
def RSn (l : List AP) : RS := ⟨selF 4 l, selF 6 l, []⟩
def SMakeN (args : List V) : Option Res := SMakeR (args.map nilR)
def SNeeR : List V → Option Res
  | [.agg [.int .u32 w, .rd 5 rows]] => match apsOf rows with
    | some l => if (∀ a ∈ l, inAP a) ∧ l.length ≤ 1000 then (if chkRoa l ≠ 0 then some ⟨.tup [.agg [.nils, .nils, .nils], .int .i64 (chkRoa l)], []⟩ else SMakeR [.agg (RSn l).cells]) else none
    | none => none
  | _ => none
theorem inSP_spA {a : AP} (h : inAP a) : inSP (spA a) := by
  have hA : inA a.h a.l := ⟨h.2.2.1, h.2.2.2.1, h.2.2.2.2.1, h.2.2.2.2.2.1⟩
  have h4 := lastA_rng (k := widN a.f - a.n.toNat) hA (by have := widN_le a.f; omega)
  unfold inSP spA
  exact ⟨hA.1, hA.2.1, hA.2.2.1, hA.2.2.2, h4.1, h4.2.1, h4.2.2.1, h4.2.2.2⟩
theorem selF_in {f : Int} {l : List AP} (h : ∀ a ∈ l, inAP a) : ∀ s ∈ selF f l, inSP s := by
  intro s hs
  unfold selF at hs
  obtain ⟨a, ha, rfl⟩ := List.mem_map.1 hs
  exact inSP_spA (h a (List.mem_filter.1 ha).1)
theorem sR_cl (t : TypeId) (l : List SP) : (Blk.sl 4 t (sRows l)).closed := by
  intro r hr c hc
  obtain ⟨x, _, rfl⟩ := List.mem_map.1 hr
  simp only [SP.row, List.mem_cons, List.not_mem_nil, or_false] at hc
  rcases hc with rfl | rfl | rfl | rfl <;> rfl
theorem aR_cl (t : TypeId) (l : List AS) : (Blk.sl 2 t (aRows l)).closed := by
  intro r hr c hc
  obtain ⟨x, _, rfl⟩ := List.mem_map.1 hr
  simp only [AS.row, List.mem_cons, List.not_mem_nil, or_false] at hc
  rcases hc with rfl | rfl <;> rfl
theorem runs_resource_MakeN : ∀ args r, SMakeN args = some r → Runs Try.prog 65 args r := runs_nilR runs_resource_Make
theorem runs_roa_Needs : ∀ args r, SNeeR args = some r → Runs Try.prog 25 args r := by
  intro args r hh
  unfold SNeeR at hh
  split at hh
  · rename_i w rows
    split at hh
    · rename_i l hl
      split at hh
      · rename_i hin
        have h1 := apsOf_eq hl
        subst h1
        have hc := roa_at (w := w) hin
        have hT : (((T0.add 20 SRoa).add 61 SNee1).add 65 SMakeN).ok Try.prog := Tab.add_ok (Tab.add_ok (Tab.add_ok (T0_ok _) runs_roa_Check) runs_roa_Needs_1) runs_resource_MakeN
        refine Runs.of_body Try.func25 (by decide) rfl (by simp [Try.f25]) ?_
        by_cases hz : chkRoa l = 0
        · rw [if_neg (by omega)] at hh
          have hok := chkRoa_ok hz
          have hS : ∀ f, SNee1 [.int .u8 f, .rptr [.int .u32 w, .rd 5 (l.map AP.row)] 0] = some ⟨.own 0, [.sl 4 79 (sRows (selF f l))]⟩ := by
            intro f
            simp only [SNee1, apsOf_map]; rw [if_pos ⟨fun a ha => ⟨hin.1 a ha, (hok.2.2 a ha).1⟩, hin.2⟩]
          have hM : SMakeN [.agg [.rd 4 (sRows (selF 4 l)), .rd 4 (sRows (selF 6 l)), .nils]] = some r := hh
          rw [hz] at hc
          refine W.seqE hT mixed M0 (by kernel_rfl) ?_
          simp [Try.f25]
          refine W.cut True [(1, .ptr 0 0), (2, .ptr 1 0)] [.box 25 [.int .u32 w, .rd 5 (l.map AP.row)], .box 64 [.nils, .nils, .nils]] 21 ?_ ?_
          · refine W.of_WE hT mixed M0 _ (by kernel_rfl) ?_
            simp [Try.f25, hc]
          intro _
          refine W.wk (Wk.freeze 0 (.box 25 [.int .u32 w, .rd 5 (l.map AP.row)]) (by simp) (by simp)) ?_
          unfold SMakeR RSn at hh
          simp only [rsOf_cells] at hh
          have hS4 := hS 4
          have hS6 := hS 6
          clear hS
          generalize sRows (selF 4 l) = R4 at *
          generalize sRows (selF 6 l) = R6 at *
          refine W.of_WE hT mixed M0 _ (by kernel_rfl) ?_
          split at hh
          · split at hh
            · cases hh
              simp [Try.f25, hS4, hS6, hM]
            · split at hh
              · cases hh
                simp [Try.f25, hS4, hS6, hM]
              · cases hh
                simp [Try.f25, hS4, hS6, hM]
                refine ⟨sR_cl _ _, sR_cl _ _, aR_cl _ _, 58, 59, by decide, 60, by decide, by decide, ?_⟩
                simp
          · cases hh
        · rw [if_pos hz] at hh
          cases hh
          refine W.of_WE hT mixed M0 _ (by kernel_rfl) ?_
          simp [Try.f25, hc, hz]
      · cases hh
    · cases hh
  · cases hh

end Go.Proofs.Ythfbddnpakhjiaa.AL
namespace Go.Proofs.Ythfbddnpakhjiaa.AL
open Go
attribute [local simp] qf cv qbin ibin sbin qun retPost rvOk ctV ctPost marksOk retV resAll resOf V.lt ltL V.ren renL V.exp V.exp1 cleanL V.clean closedL V.closed V.cells V.one V.tree
  loadV cellsAt isNC nilQ isSlD isIfD slNew ownRows ownCells V.isOwn slStore srcO qlook mlook mget mstr zval qnone qmake mput lmap isAggD placesOf fillV putCells lstore bound seqParts V.sh shL Blk.sh newV V.ok peqs peq srcRows appOk mmV mmR hidE V.fz fzL Blk.fz fzOk and_assoc
attribute [-simp] Int.not_le Int.not_lt Nat.not_le Nat.not_lt
/-- The reference's three sets out of two lists of resources. -/
def D4 (d : Int) (a b : RS) : List SP := doneL d 4 a.l4 b.l4
def D6 (d : Int) (a b : RS) : List SP := doneL d 6 a.l6 b.l6
def DA (d : Int) (a b : RS) : List SP := doneL d 4 (a.la.map wideS) (b.la.map wideS)
def SAllD : List V → Option Res
  | [.int .i64 d, .agg ca, .agg cb] => match rsOf ca, rsOf cb with
    | some a, some b => if inRS a ∧ inRS b ∧ lenRS 1000 a ∧ lenRS 1000 b then
        (if big3 (D4 d a b) (D6 d a b) (DA d a b) = true then some ⟨.tup [.agg [.nils, .nils, .nils], .int .i64 4], []⟩
          else some ⟨.tup [.agg [.rd 4 (sRows (D4 d a b)), .rd 4 (sRows (D6 d a b)), .rd 2 (aRows ((DA d a b).map narS))], .int .i64 0], []⟩) else none
    | _, _ => none
  | _ => none
theorem lists_atA {r : RS} (hin : inRS r) (hlen : lenRS 1000 r) : SLists [.agg [.rd 4 (sRows r.l4), .rd 4 (sRows r.l6), .rd 2 (aRows r.la)]] = some ⟨.tup [.rd 1 [[.rd 4 (sRows r.l4)], [.rd 4 (sRows r.l6)], [.rd 4 (sRows (r.la.map wideS))]], .rd 1 famRows], []⟩ := by
  simp only [SLists, aRows_parse]
  rw [if_pos ⟨hin.2.2, by have := hlen.2.2; omega⟩]
theorem done_atA {d f : Int} {a b : List SP} (ha : ∀ s ∈ a, inSP s) (hb : ∀ s ∈ b, inSP s) (la : a.length ≤ 1000) (lb : b.length ≤ 1000) (hf : f = 4 ∨ f = 6) :
    SDone [.int .i64 d, .int .u8 f, .rd 4 (sRows a), .rd 4 (sRows b)] = some ⟨.own 0, [.sl 4 79 (sRows (doneL d f a b))]⟩ := by
  simp only [SDone, sRows_parse]
  rw [if_pos ⟨ha, hb, la, lb, hf⟩]
def M_f96 : Md := fun i => if i = 7 then some #[0, 0, 0, 0, 12, 28, 0, 0, 192, 448, 0, 0, 3072, 7168, 16382, 32766, 65535, 131071] else if i = 10 then some #[0, 1, 3, 0, 8, 24, 63, 0, 255] else if i = 14 then some #[0, 1, 0, 4, 12, 0, 60, 124, 252, 508, 1020, 0, 2048, 6144, 0, 30720, 63488, 129024, 260096, 522240, 1048572, 2097148, 4194303, 8388607, 16777215] else some #[]
@[simp] theorem M_f96_eq {i : Nat} : M_f96 i = (if i = 7 then some #[0, 0, 0, 0, 12, 28, 0, 0, 192, 448, 0, 0, 3072, 7168, 16382, 32766, 65535, 131071] else if i = 10 then some #[0, 1, 3, 0, 8, 24, 63, 0, 255] else if i = 14 then some #[0, 1, 0, 4, 12, 0, 60, 124, 252, 508, 1020, 0, 2048, 6144, 0, 30720, 63488, 129024, 260096, 522240, 1048572, 2097148, 4194303, 8388607, 16777215] else some #[]) := rfl
theorem runs_ref03_All : ∀ args r, SAllD args = some r → Runs Try.prog 96 args r := by
  intro args r hh
  unfold SAllD at hh
  split at hh
  · rename_i d ca cb
    split at hh
    · rename_i a b ha hb
      split at hh
      · rename_i hin
        obtain ⟨ia, ib, la, lb⟩ := hin
        have h1 := rsOf_eq ha
        have h2 := rsOf_eq hb
        subst h1 h2
        have ea := lists_atA ia la
        have eb := lists_atA ib lb
        have e4 := done_atA (d := d) (f := 4) ia.1 ib.1 la.1 lb.1 (.inl rfl)
        have e6 := done_atA (d := d) (f := 6) ia.2.1 ib.2.1 la.2.1 lb.2.1 (.inr rfl)
        have eA := done_atA (d := d) (f := 4) (a := a.la.map wideS) (b := b.la.map wideS) (fun s hs => by obtain ⟨t, ht, rfl⟩ := List.mem_map.1 hs; exact inSP_wide (ia.2.2 t ht)) (fun s hs => by obtain ⟨t, ht, rfl⟩ := List.mem_map.1 hs; exact inSP_wide (ib.2.2 t ht)) (by simpa using la.2.2) (by simpa using lb.2.2) (.inl rfl)
        change SDone _ = some ⟨.own 0, [.sl 4 79 (sRows (D4 d a b))]⟩ at e4
        change SDone _ = some ⟨.own 0, [.sl 4 79 (sRows (D6 d a b))]⟩ at e6
        change SDone _ = some ⟨.own 0, [.sl 4 79 (sRows (DA d a b))]⟩ at eA
        have hT : ((T0.add 71 SLists).add 129 SDone).ok Try.prog := Tab.add_ok (Tab.add_ok (T0_ok _) runs_ref03_lists) runs_ref03_done
        simp only [RS.cells]
        refine Runs.of_body Try.func96 (by decide) rfl (by simp [Try.f96]) ?_
        generalize D4 d a b = A4 at *
        generalize D6 d a b = A6 at *
        generalize DA d a b = AA at *
        generalize sRows a.l4 = xa4 at *
        generalize sRows a.l6 = xa6 at *
        generalize aRows a.la = xaa at *
        generalize sRows (a.la.map wideS) = xaw at *
        generalize sRows b.l4 = xb4 at *
        generalize sRows b.l6 = xb6 at *
        generalize aRows b.la = xba at *
        generalize sRows (b.la.map wideS) = xbw at *
        refine W.seqE hT mixed M_f96 (by kernel_rfl) ?_
        simp [Try.f96]
        refine W.seqE hT mixed M_f96 (by kernel_rfl) ?_
        simp [ea]
        refine W.seqE hT mixed M_f96 (by kernel_rfl) ?_
        simp [eb]
        refine W.seqE hT mixed M_f96 (by kernel_rfl) ?_
        simp
        refine W.wk (Wk.adopt 12 1 61 (by omega) (by simp)) ?_
        obtain ⟨R3, hR3⟩ : ∃ R3, R3 = [[V.rd 4 (sRows A4)], [V.rd 4 (sRows A6)], [V.rd 4 (sRows AA)]] := ⟨_, rfl⟩
        refine W.cut (big3 A4 A6 AA = false) [(6, .ptr 0 0), (12, .own 1)] [.box 64 [.nils, .nils, .nils], .sl 1 61 R3] 94 ?_ ?_
        · refine W.seqE hT mixed M_f96 (by kernel_rfl) ?_
          simp
          refine W.block (W.for (fun k => (0 < k → ¬ 200 < A4.length) ∧ (1 < k → ¬ 200 < A6.length) ∧ (2 < k → ¬ 200 < AA.length)) (fun k => [(0, .int .i64 d), (6, .ptr 0 0), (8, .rd 1 [[.rd 4 xa4], [.rd 4 xa6], [.rd 4 xaw]]), (9, .rd 1 famRows), (10, .rd 1 [[.rd 4 xb4], [.rd 4 xb6], [.rd 4 xbw]]), (12, .own 1), (13, .int .i64 k)])
            (fun k => [.box 64 [.nils, .nils, .nils], .sl 1 61 (R3.take k)]) 94 3 (by simp) ?_ ?_)
          · simp
          · intro k hk hJ
            match k, hk, hJ with
            | 0, _, hJ =>
              subst hR3
              refine W.seqE hT mixed M_f96 (by kernel_rfl) ?_
              simp
              refine W.seq (W.block ?_)
              refine W.cut True [(0, .int .i64 d), (6, .ptr 0 0), (8, .rd 1 [[.rd 4 xa4], [.rd 4 xa6], [.rd 4 xaw]]), (9, .rd 1 famRows), (10, .rd 1 [[.rd 4 xb4], [.rd 4 xb6], [.rd 4 xbw]]), (12, .own 1), (13, .int .i64 0)] [.box 64 [.nils, .nils, .nils], .slo 1 61 [[.own 2]], .sl 4 79 (sRows A4)] 94 ?_ ?_
              · refine W.of_WE hT mixed M_f96 _ (by kernel_rfl) ?_
                simp [e4, famRows, famK]
              intro _
              refine W.wk (Wk.freeze 2 (.sl 4 79 (sRows A4)) (by simp) (by simp)) ?_
              refine W.wk (Wk.clean 1 1 61 [[.rd 4 (sRows A4)]] (by simp) (by simp)) ?_
              refine W.of_WE hT mixed M_f96 _ (by kernel_rfl) ?_
              by_cases hl : (200 : Int) < A4.length
              · have hb : big3 A4 A6 AA = true := by
                  unfold big3
                  simp only [Bool.or_eq_true, decide_eq_true_eq]
                  omega
                rw [if_pos hb] at hh
                cases hh
                simp [hl, sRows_len]
              · simp [hl, sRows_len]
                refine W.of_WE hT mixed M_f96 _ (by kernel_rfl) ?_
                simp
                have w1 : IntKind.i64.wrap 1 = 1 := rfl
                have w2 : IntKind.i64.wrap 2 = 2 := rfl
                have w3 : IntKind.i64.wrap 3 = 3 := rfl
                omega
            | 1, _, hJ =>
              subst hR3
              refine W.seqE hT mixed M_f96 (by kernel_rfl) ?_
              simp
              refine W.seq (W.block ?_)
              refine W.cut True [(0, .int .i64 d), (6, .ptr 0 0), (8, .rd 1 [[.rd 4 xa4], [.rd 4 xa6], [.rd 4 xaw]]), (9, .rd 1 famRows), (10, .rd 1 [[.rd 4 xb4], [.rd 4 xb6], [.rd 4 xbw]]), (12, .own 1), (13, .int .i64 1)] [.box 64 [.nils, .nils, .nils], .slo 1 61 [[.rd 4 (sRows A4)], [.own 2]], .sl 4 79 (sRows A6)] 94 ?_ ?_
              · refine W.of_WE hT mixed M_f96 _ (by kernel_rfl) ?_
                simp [e6, famRows, famK]
              intro _
              refine W.wk (Wk.freeze 2 (.sl 4 79 (sRows A6)) (by simp) (by simp)) ?_
              refine W.wk (Wk.clean 1 1 61 [[.rd 4 (sRows A4)], [.rd 4 (sRows A6)]] (by simp) (by simp)) ?_
              refine W.of_WE hT mixed M_f96 _ (by kernel_rfl) ?_
              by_cases hl : (200 : Int) < A6.length
              · have hb : big3 A4 A6 AA = true := by
                  unfold big3
                  simp only [Bool.or_eq_true, decide_eq_true_eq]
                  omega
                rw [if_pos hb] at hh
                cases hh
                simp [hl, sRows_len]
              · simp [hl, sRows_len]
                refine W.of_WE hT mixed M_f96 _ (by kernel_rfl) ?_
                simp
                have w1 : IntKind.i64.wrap 1 = 1 := rfl
                have w2 : IntKind.i64.wrap 2 = 2 := rfl
                have w3 : IntKind.i64.wrap 3 = 3 := rfl
                omega
            | 2, _, hJ =>
              subst hR3
              refine W.seqE hT mixed M_f96 (by kernel_rfl) ?_
              simp
              refine W.seq (W.block ?_)
              refine W.cut True [(0, .int .i64 d), (6, .ptr 0 0), (8, .rd 1 [[.rd 4 xa4], [.rd 4 xa6], [.rd 4 xaw]]), (9, .rd 1 famRows), (10, .rd 1 [[.rd 4 xb4], [.rd 4 xb6], [.rd 4 xbw]]), (12, .own 1), (13, .int .i64 2)] [.box 64 [.nils, .nils, .nils], .slo 1 61 [[.rd 4 (sRows A4)], [.rd 4 (sRows A6)], [.own 2]], .sl 4 79 (sRows AA)] 94 ?_ ?_
              · refine W.of_WE hT mixed M_f96 _ (by kernel_rfl) ?_
                simp [eA, famRows, famK]
              intro _
              refine W.wk (Wk.freeze 2 (.sl 4 79 (sRows AA)) (by simp) (by simp)) ?_
              refine W.wk (Wk.clean 1 1 61 [[.rd 4 (sRows A4)], [.rd 4 (sRows A6)], [.rd 4 (sRows AA)]] (by simp) (by simp)) ?_
              refine W.of_WE hT mixed M_f96 _ (by kernel_rfl) ?_
              by_cases hl : (200 : Int) < AA.length
              · have hb : big3 A4 A6 AA = true := by
                  unfold big3
                  simp only [Bool.or_eq_true, decide_eq_true_eq]
                  omega
                rw [if_pos hb] at hh
                cases hh
                simp [hl, sRows_len]
              · simp [hl, sRows_len]
                refine W.of_WE hT mixed M_f96 _ (by kernel_rfl) ?_
                simp
                have w1 : IntKind.i64.wrap 1 = 1 := rfl
                have w2 : IntKind.i64.wrap 2 = 2 := rfl
                have w3 : IntKind.i64.wrap 3 = 3 := rfl
                omega
            | 3, _, hJ =>
              refine W.of_WE hT mixed M_f96 _ (by kernel_rfl) ?_
              subst hR3
              simp
              unfold big3
              simp
              omega
        intro hbig
        rw [if_neg (by rw [hbig]; simp)] at hh
        cases hh
        have hA : AA.length ≤ 200 := by
          unfold big3 at hbig
          simp only [Bool.or_eq_false_iff, decide_eq_false_iff_not] at hbig
          omega
        refine W.wk (Wk.freeze 1 (.sl 1 61 R3) (by simp) (by simp [hR3])) ?_
        refine W.cut True [(6, .ptr 0 0), (12, .rd 1 R3), (14, .ptr 1 0)] [.box 64 [.nils, .nils, .nils], .box 64 [.rd 4 (sRows A4), .rd 4 (sRows A6), .nils]] 94 ?_ ?_
        · refine W.of_WE hT mixed M_f96 _ (by kernel_rfl) ?_
          simp [hR3]
        intro _
        refine W.wk (Wk.adoptB 1 2 2 181 (bt := 64) (cells := [.rd 4 (sRows A4), .rd 4 (sRows A6), .nils]) (by omega) (by simp) rfl) ?_
        refine W.cut True [(6, .ptr 0 0), (14, .ptr 1 0)] [.box 64 [.nils, .nils, .nils], .box 64 [.rd 4 (sRows A4), .rd 4 (sRows A6), .own 2], .sl 2 181 (aRows (AA.map narS))] 94 ?_ ?_
        · refine W.seqE hT mixed M_f96 (by kernel_rfl) ?_
          simp
          refine W.block (W.for (fun _ => True) (fun k => [(6, .ptr 0 0), (12, .rd 1 R3), (14, .ptr 1 0), (15, .int .i64 k)])
            (fun k => [.box 64 [.nils, .nils, .nils], .box 64 [.rd 4 (sRows A4), .rd 4 (sRows A6), .own 2], .sl 2 181 (aRows ((AA.take k).map narS))]) 94 AA.length trivial ?_ ?_)
          · simp [aRows]
          · intro k hk _
            refine W.of_WE hT mixed M_f96 _ (by kernel_rfl) ?_
            subst hR3
            by_cases hlt : k < AA.length
            · have hw1 : IntKind.i64.wrap ((k : Int) + 1) = k + 1 := wr_i64 (by omega) (by omega)
              have hsn : aRows ((AA.take (k + 1)).map narS) = aRows ((AA.take k).map narS) ++ [(narS AA[k]).row] := by
                rw [take_snoc' AA k hlt, List.map_append]; unfold aRows; rw [List.map_append]; rfl
              have hlk : (aRows ((AA.take k).map narS)).length ≤ 1000000 := by rw [aRows_len]; simp; omega
              generalize aRows ((AA.take k).map narS) = R at *
              simp [hlt, hw1, SP.row, sRows_len]
              simp [AS.row, narS] at hsn
              rw [hsn]
              exact ⟨by omega, by omega, rfl⟩
            · have : k = AA.length := by omega
              subst this
              simp [sRows_len]
        intro _
        refine W.wk (Wk.freeze 2 (.sl 2 181 (aRows (AA.map narS))) (by simp) (by simp)) ?_
        refine W.of_WE hT mixed M_f96 _ (by kernel_rfl) ?_
        simp [Try.f96]
      · cases hh
    · cases hh
  · cases hh

end Go.Proofs.Ythfbddnpakhjiaa.AL
