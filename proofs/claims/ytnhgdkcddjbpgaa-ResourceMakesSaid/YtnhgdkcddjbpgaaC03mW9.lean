import Derived.Test.YtnhgdkcddjbpgaaC03mW8
import Derived.Shelf.SlGeneric
import Derived.Shelf.SlSortCmp.NoneTotal
import Derived.Ground.SlsfProg
import Derived.Ground.Names8Prog
import Derived.Shelf.Spec.SlicesGrow
import Derived.Test.YtnhgdkcddjbpgaaProg
import Derived.Tactics2
import Derived.Test.YtnhgdkcddjbpgaaC03mAL4
/- What single functions compute: a part of the proof; no conditions. -/
set_option linter.unusedVariables false
set_option linter.unusedSimpArgs false
set_option maxRecDepth 100000
set_option linter.unusedSectionVars false
namespace Go.Proofs.Ytnhgdkcddjbpgaa.AL
open Go
attribute [local simp] qf cv qbin ibin sbin qun retPost rvOk ctV ctPost marksOk retV resAll resOf V.lt ltL V.ren renL V.exp V.exp1 cleanL V.clean closedL V.closed V.cells V.one V.tree
  loadV cellsAt isNC nilQ isSlD isIfD slNew ownRows ownCells V.isOwn slStore srcO qlook mlook mget mstr zval qnone qmake mput lmap isAggD placesOf fillV putCells lstore bound seqParts V.sh shL Blk.sh newV V.ok peqs peq srcRows appOk mmV mmR hidE V.fz fzL Blk.fz fzOk and_assoc
attribute [-simp] Int.not_le Int.not_lt Nat.not_le Nat.not_lt
/-- slices.Clone of rows of 4 cells. -/
theorem runs_Clone_set {rows : List (List V)} (hlen : rows.length ≤ 1000000) : Runs Try.prog 67 [.rd 4 rows] ⟨.own 0, [.sl 4 55 rows]⟩ := by
  refine Runs.of_body Try.func67 (by decide) rfl (by simp [Try.f67]) ?_
  refine W.seqE (T0_ok _) mixed M0 (by kernel_rfl) ?_
  simp [Try.f67]
  refine W.cut True [(0, .rd 4 rows)] [] 8 ?_ ?_
  · refine W.seqE (T0_ok _) mixed M0 (by kernel_rfl) ?_
    by_cases h : rows = []
    · subst h
      simp [Try.f67]
      refine W.cond_any (by simp) ?_ ?_
      · refine W.seqE (T0_ok _) mixed M0 (by kernel_rfl) ?_
        simp
        refine W.wk (Wk.adopt 2 4 55 (by omega) (by simp)) ?_
        refine W.of_WE (T0_ok _) mixed M0 _ (by kernel_rfl) ?_
        simp [Try.f67]
      · refine W.of_WE (T0_ok _) mixed M0 _ (by kernel_rfl) ?_
        simp
    · simp [Try.f67, h]
      refine W.of_WE (T0_ok _) mixed M0 _ (by kernel_rfl) ?_
      simp
  · intro _
    refine W.of_WE (T0_ok _) mixed M0 _ (by kernel_rfl) ?_
    simp [Try.f67]
    omega
open Classical in
/-- Clone, at these lists. -/
noncomputable def SClo (ls : List (List (List V))) : List V → Option Res
  | [.rd 4 rows] => if rows ∈ ls then some ⟨.own 0, [.sl 4 55 rows]⟩ else none
  | _ => none
theorem SClo_ok {ls : List (List (List V))} (h : ∀ rows ∈ ls, Runs Try.prog 67 [.rd 4 rows] ⟨.own 0, [.sl 4 55 rows]⟩) {args : List V} {r : Res} (hh : SClo ls args = some r) : Runs Try.prog 67 args r := by
  unfold SClo at hh
  split at hh
  · split at hh
    · rename_i hm; cases hh; exact h _ hm
    · cases hh
  · cases hh
theorem SClo_at {ls : List (List (List V))} {rows : List (List V)} (h : rows ∈ ls) : SClo ls [.rd 4 rows] = some ⟨.own 0, [.sl 4 55 rows]⟩ := by
  simp only [SClo]
  rw [if_pos h]

end Go.Proofs.Ytnhgdkcddjbpgaa.AL
namespace Go.Proofs
open Go.Shelf
def Try.sortSet_ren : Go.Shelf.Ren := ⟨fun | 14 => 92 | 20 => 97 | 21 => 98 | 22 => 99 | 23 => 100 | 24 => 101 | 25 => 102 | 26 => 103 | 27 => 104 | 46 => 107 | 47 => 108 | 48 => 109 | 49 => 110 | 50 => 111 | 15 => 93 | 57 => 112 | 28 => 105 | 29 => 106 | n => n, fun | 24 => 55 | 22 => 22 | 3 => 3 | 25 => 103 | 4 => 4 | 0 => 0 | 46 => 134 | 45 => 133 | 50 => 138 | 66 => 142 | 39 => 128 | 55 => 26 | 70 => 146 | 76 => 148 | 77 => 149 | 53 => 31 | 5 => 5 | 9 => 9 | n => n, fun | n => n⟩
theorem Try.sortSet : Go.Proofs.SlLaysF0.n14 Try.prog Try.sortSet_ren := {
  mixed := by kernel_rfl
  f14 := ⟨Try.f92.name, by decide, Try.func92.trans (congrArg some (by kernel_rfl))⟩
  f15 := Try.func93.trans (congrArg some (by kernel_rfl))
  f20 := ⟨Try.f97.name, by decide, Try.func97.trans (congrArg some (by kernel_rfl))⟩
  f21 := ⟨Try.f98.name, by decide, Try.func98.trans (congrArg some (by kernel_rfl))⟩
  f22 := ⟨Try.f99.name, by decide, Try.func99.trans (congrArg some (by kernel_rfl))⟩
  f23 := ⟨Try.f100.name, by decide, Try.func100.trans (congrArg some (by kernel_rfl))⟩
  f24 := ⟨Try.f101.name, by decide, Try.func101.trans (congrArg some (by kernel_rfl))⟩
  f25 := ⟨Try.f102.name, by decide, Try.func102.trans (congrArg some (by kernel_rfl))⟩
  f26 := ⟨Try.f103.name, by decide, Try.func103.trans (congrArg some (by kernel_rfl))⟩
  f27 := ⟨Try.f104.name, by decide, Try.func104.trans (congrArg some (by kernel_rfl))⟩
  f28 := Try.func105.trans (congrArg some (by kernel_rfl))
  f29 := Try.func106.trans (congrArg some (by kernel_rfl))
  f46 := ⟨Try.f107.name, by decide, Try.func107.trans (congrArg some (by kernel_rfl))⟩
  f47 := Try.func108.trans (congrArg some (by kernel_rfl))
  f48 := Try.func109.trans (congrArg some (by kernel_rfl))
  f49 := ⟨Try.f110.name, by decide, Try.func110.trans (congrArg some (by kernel_rfl))⟩
  f50 := ⟨Try.f111.name, by decide, Try.func111.trans (congrArg some (by kernel_rfl))⟩
  f57 := ⟨Try.f112.name, by decide, Try.func112.trans (congrArg some (by kernel_rfl))⟩
  t0 := Try.underlying0
  a0 := Try.isAgg0
  z0 := Try.sizeOf0
  v0 := Try.zeroValue0
  t3 := Try.underlying3
  a3 := Try.isAgg3
  z3 := Try.sizeOf3
  v3 := Try.zeroValue3
  t4 := Try.underlying4
  a4 := Try.isAgg4
  z4 := Try.sizeOf4
  v4 := Try.zeroValue4
  t5 := Try.underlying5
  a5 := Try.isAgg5
  z5 := Try.sizeOf5
  v5 := Try.zeroValue5
  t9 := Try.underlying9
  a9 := Try.isAgg9
  z9 := Try.sizeOf9
  v9 := Try.zeroValue9
  t22 := Try.underlying22
  a22 := Try.isAgg22
  z22 := Try.sizeOf22
  v22 := Try.zeroValue22
  t25 := Try.underlying103
  a25 := Try.isAgg103
  z25 := Try.sizeOf103
  v25 := Try.zeroValue103
  t39 := Try.underlying128
  a39 := Try.isAgg128
  z39 := Try.sizeOf128
  v39 := Try.zeroValue128
  t45 := Try.underlying133
  a45 := Try.isAgg133
  z45 := Try.sizeOf133
  v45 := Try.zeroValue133
  t46 := Try.underlying134
  a46 := Try.isAgg134
  z46 := Try.sizeOf134
  v46 := Try.zeroValue134
  t50 := Try.underlying138
  a50 := Try.isAgg138
  z50 := Try.sizeOf138
  v50 := Try.zeroValue138
  t53 := Try.underlying31
  a53 := Try.isAgg31
  z53 := Try.sizeOf31
  v53 := Try.zeroValue31
  t55 := Try.underlying26
  a55 := Try.isAgg26
  z55 := Try.sizeOf26
  v55 := Try.zeroValue26
  t66 := Try.underlying142
  a66 := Try.isAgg142
  z66 := Try.sizeOf142
  v66 := Try.zeroValue142
  t70 := Try.underlying146
  a70 := Try.isAgg146
  z70 := Try.sizeOf146
  v70 := Try.zeroValue146
  t76 := Try.underlying148
  a76 := Try.isAgg148
  z76 := Try.sizeOf148
  v76 := Try.zeroValue148
  t77 := Try.underlying149
  a77 := Try.isAgg149
  z77 := Try.sizeOf149
  v77 := Try.zeroValue149 }
def Try.growSet_ren : Go.Shelf.Ren := ⟨fun | 4 => 75 | n => n, fun | 22 => 63 | 25 => 55 | 3 => 3 | 4 => 4 | 9 => 9 | 20 => 20 | 0 => 0 | n => n, fun | n => n⟩
theorem Try.growSet : Go.Proofs.Lays8.n4 Try.prog Try.growSet_ren := {
  mixed := by kernel_rfl
  f4 := ⟨Try.f75.name, by decide, Try.func75.trans (congrArg some (by kernel_rfl))⟩
  t0 := Try.underlying0
  a0 := Try.isAgg0
  z0 := Try.sizeOf0
  v0 := Try.zeroValue0
  t3 := Try.underlying3
  a3 := Try.isAgg3
  z3 := Try.sizeOf3
  v3 := Try.zeroValue3
  t4 := Try.underlying4
  a4 := Try.isAgg4
  z4 := Try.sizeOf4
  v4 := Try.zeroValue4
  t9 := Try.underlying9
  a9 := Try.isAgg9
  z9 := Try.sizeOf9
  v9 := Try.zeroValue9
  t20 := Try.underlying20
  a20 := Try.isAgg20
  z20 := Try.sizeOf20
  v20 := Try.zeroValue20
  t22 := Try.underlying63
  a22 := Try.isAgg63
  z22 := Try.sizeOf63
  v22 := Try.zeroValue63 }
end Go.Proofs
namespace Go.Proofs.Ytnhgdkcddjbpgaa.AL
open Go
attribute [local simp] qf cv qbin ibin sbin qun retPost rvOk ctV ctPost marksOk retV resAll resOf V.lt ltL V.ren renL V.exp V.exp1 cleanL V.clean closedL V.closed V.cells V.one V.tree
  loadV cellsAt isNC nilQ isSlD isIfD slNew ownRows ownCells V.isOwn slStore srcO qlook mlook mget mstr zval qnone qmake mput lmap isAggD placesOf fillV putCells lstore bound seqParts V.sh shL Blk.sh newV V.ok peqs peq srcRows appOk mmV mmR hidE V.fz fzL Blk.fz fzOk and_assoc
attribute [-simp] Int.not_le Int.not_lt Nat.not_le Nat.not_lt
open Go.Sort Go.Shelf Go.RowKit Go.Lib
theorem runs_cmp_Or_int : ∀ args r, SOr2 args = some r → Runs Try.prog 70 args r := by
  intro args r hh
  unfold SOr2 at hh
  split at hh
  · rename_i a b
    cases hh
    refine Runs.of_body Try.func70 (by decide) rfl (by simp [Try.f70]) ?_
    refine W.seqE (T0_ok _) mixed M0 (by kernel_rfl) ?_
    simp [Try.f70]
    refine W.seqE (T0_ok _) mixed M0 (by kernel_rfl) ?_
    simp [Try.f70]
    refine W.cut (a = 0 ∧ b = 0) [(3, .int .i64 0)] [] 18 ?_ ?_
    · refine W.seqE (T0_ok _) mixed M0 (by kernel_rfl) ?_
      simp [Try.f70]
      refine W.block (W.for (fun k => (0 < k → a = 0) ∧ (1 < k → b = 0)) (fun k => [(3, .int .i64 0), (6, .rd 1 [[.int .i64 a], [.int .i64 b]]), (7, .int .i64 2), (8, .int .i64 k)]) (fun k => []) 18 2 (by simp) ?_ ?_)
      · simp
      · intro k hk hJ
        refine W.of_WE (T0_ok _) mixed M0 _ (by kernel_rfl) ?_
        match k, hk, hJ with
        | 0, _, hJ =>
          by_cases ha : a = 0
          · simp [ha]; rfl
          · simp [ha]
        | 1, _, hJ =>
          by_cases hb : b = 0
          · simp [hb, hJ.1 (by omega)]; rfl
          · simp [hb, hJ.1 (by omega)]
        | 2, _, hJ => simp [hJ.1, hJ.2]
    · intro ⟨ha, hb⟩
      refine W.of_WE (T0_ok _) mixed M0 _ (by kernel_rfl) ?_
      simp [Try.f70, ha, hb]
  · cases hh

def SCf : List V → Option Res
  | [.agg [.int .u64 a, .int .u64 b, .int .u64 c, .int .u64 d], .agg [.int .u64 e, .int .u64 f, .int .u64 g, .int .u64 h]] => some ⟨.int .i64 (cfS ⟨a, b, c, d⟩ ⟨e, f, g, h⟩), []⟩
  | _ => none
def M_f69 : Md := fun i => if i = 1 then some #[0, 1, 0, 4, 15, 0, 32, 0, 128, 511, 1023, 2047, 4095] else some #[]
@[simp] theorem M_f69_eq {i : Nat} : M_f69 i = (if i = 1 then some #[0, 1, 0, 4, 15, 0, 32, 0, 128, 511, 1023, 2047, 4095] else some #[]) := rfl
theorem runs_union_1 : ∀ args r, SCf args = some r → Runs Try.prog 69 args r := by
  intro args r hh
  unfold SCf at hh
  split at hh
  · rename_i a b c d e f g h
    cases hh
    have hT : ((T0.add 55 SCompare).add 70 SOr2).ok Try.prog := Tab.add_ok (Tab.add_ok (T0_ok _) runs_number_Compare) runs_cmp_Or_int
    refine Runs.of_body Try.func69 (by decide) rfl (by simp [Try.f69]) ?_
    refine W.of_WE hT mixed M_f69 _ (by kernel_rfl) ?_
    simp [Try.f69, SCompare, SOr2, cfS]
  · cases hh
theorem isAggSp : ∀ w, (isAgg 55).run Try.prog w = .ok true w := Try.isAgg55
theorem sizeOfSp : ∀ w, (Go.sizeOf 55).run Try.prog w = .ok 4 w := Try.sizeOf55
theorem swoS : SWO (ltOf cfS) := by
  constructor
  · intro x; simp [ltOf, cfS_lt, ltS]
  · intro x y z h1 h2; simp only [ltOf, decide_eq_true_eq, cfS_lt, ltS] at *; omega
  · intro x y z h1 h2; simp only [ltOf, decide_eq_false_iff_not, cfS_lt, ltS] at *; omega
theorem sortS_eq (l : List SP) : (l.mergeSort fun x y => !(ltOf cfS) y x) = sortS l := rfl
set_option maxHeartbeats 2000000 in
theorem sort_calls (blk cap : Nat) (l : List SP) (w : World) (hc : CmpLays Try.prog 69 #[] encS 4 cfS blk 0 l.length w) (hH : HoldsK encS 4 w blk 0 l.toArray) (hblk : blk < w.heap.size) (hl0 : l.length ≤ 1000000) (hne : l ≠ []) :
    Calls Try.prog 68 #[.slice (some ⟨blk, 0, none⟩) l.length cap, .func (.func 69) #[] #[]] w fun e w' => e = .returned (.tuple #[]) ∧ ∃ n os, w' = sortWorldK encS 4 w blk 0 n (sortS l).toArray os := by
  have eg : ∀ args w, (callFunc 69 args).run Try.prog w = .ok (.enter 69 args) w := enters_of Try.func69 (by kernel_rfl) rfl
  obtain ⟨d, hd⟩ : ∃ d, d = l.toArray := ⟨_, rfl⟩
  have hds : d.size = l.length := by rw [hd]; simp
  rw [← hd] at hH
  rw [← hds] at hc ⊢
  have hdl : d.size ≤ 1000000 := by omega
  have hlim : Lib.bitLen d.size < 4611686018427387904 := Nat.lt_of_le_of_lt (Lib.bitLen_le d.size 62 (by omega) (by omega)) (by omega)
  have hp := AnyQ.pdqsortCmpFunc_all Try.sortSet 4 isAggSp sizeOfSp encS cfS 69 #[] swoS blk 0 cap d w eg hc ⟨fun _ => rfl, fun x v hv => by simp [encS] at hv; rcases hv with rfl | rfl | rfl | rfl <;> rfl, hH, hblk⟩ (d.size + 1) 0 d.size (Lib.bitLen d.size) d w (by omega) rfl (SWK.start hH) (Nat.zero_le _) (Nat.le_refl _) (by omega) hlim (Or.inl rfl)
  have hl : Calls Try.prog 93 #[.int .u64 (d.size : Int)] w fun e w' => e = .returned (.int .i64 (Lib.bitLen d.size : Nat)) ∧ w' = w := by
    have h := Any.bits_Len (SlLaysF0.n15.bits { Try.sortSet with }) (d.size : Int) w (by omega) (by omega)
    rwa [Int.toNat_natCast] at h
  change Calls Try.prog 92 _ _ _ at hp
  have wr : IntKind.u64.wrap (d.size : Int) = d.size := by simp [IntKind.wrap, IntKind.bits, IntKind.signed]; omega
  have hfin : pdq (ltOf cfS) d 0 d.size (Lib.bitLen d.size) true true = (sortS l).toArray := by
    have h := pdq_sorts (ltOf cfS) swoS d 0 d.size (Lib.bitLen d.size) true true (Nat.zero_le _) (Nat.le_refl _) (Or.inl rfl)
    have h2 := sorted_unique_holds swoS (fun x y h1 h2 => cfS_tot x y h1 h2) d _ h.1 h.2
    apply Array.toList_inj.1
    rw [h2, hd]
    rfl
  rw [hfin] at hp
  generalize sortS l = r at hp ⊢
  clear hH hc hfin hne hd hds hl0
  go_enter Try.func68, Try.ntmps68
  go_wp2_with (first | (go_at_call 93; refine hl.mono ?_; rintro e w' ⟨rfl, rfl⟩) | (go_at_call 92; refine hp.mono ?_; rintro e w' ⟨rfl, n, os, rfl⟩))
  go_end0
  exact ⟨rfl, n, os, rfl⟩
theorem sort_none (p : Option Addr) (cap : Nat) (w : World) : Calls Try.prog 68 #[.slice p 0 cap, .func (.func 69) #[] #[]] w fun e w' => e = .returned (.tuple #[]) ∧ w' = w := by
  have hp := fun lim W => AnyF.pdqsortCmpFunc_none Try.sortSet p cap lim (.func (.func 69) #[] #[]) W
  have hl : ∀ W, Calls Try.prog 93 #[.int .u64 0] W fun e w' => e = .returned (.int .i64 (Lib.bitLen 0 : Nat)) ∧ w' = W := fun W => by
    have h := Any.bits_Len (SlLaysF0.n15.bits { Try.sortSet with }) 0 W (by omega) (by omega)
    exact h
  change ∀ lim W, Calls Try.prog 92 _ _ _ at hp
  go_enter Try.func68, Try.ntmps68
  go_wp2_with (first | (go_at_call 93; refine (hl _).mono ?_; rintro e w' ⟨rfl, rfl⟩) | (go_at_call 92; refine (hp _ _).mono ?_; rintro e w' ⟨rfl, rfl⟩))
  go_end0
  exact ⟨rfl, rfl⟩
theorem sort_set {vs : List V} {s : St} {K X : V → St → Prop} (h : SortC 55 69 sortS vs s K X) : CallW Try.prog 68 s vs K X :=
  sort_ok Try.func68 (by decide) rfl Try.func69 (by decide) rfl (cf := cfS) (fun x y => runs_union_1 _ _ rfl)
    (fun blk cap l w hc hH hblk hl hne => sort_calls blk cap l w hc hH hblk hl hne) (fun p cap w => sort_none p cap w) sortS_len h

end Go.Proofs.Ytnhgdkcddjbpgaa.AL
namespace Go.Proofs.Ytnhgdkcddjbpgaa.AL
open Go
attribute [local simp] qf cv qbin ibin sbin qun retPost rvOk ctV ctPost marksOk retV resAll resOf V.lt ltL V.ren renL V.exp V.exp1 cleanL V.clean closedL V.closed V.cells V.one V.tree
  loadV cellsAt isNC nilQ isSlD isIfD slNew ownRows ownCells V.isOwn slStore srcO qlook mlook mget mstr zval qnone qmake mput lmap isAggD placesOf fillV putCells lstore bound seqParts V.sh shL Blk.sh newV V.ok peqs peq srcRows appOk mmV mmR hidE V.fz fzL Blk.fz fzOk and_assoc
attribute [-simp] Int.not_le Int.not_lt Nat.not_le Nat.not_lt
def SUni : List V → Option Res
  | [.rd 4 rows] => match spsOf rows with
    | some l => if (∀ s ∈ l, inSP s) ∧ l.length ≤ 1000 then some ⟨.own 0, [.sl 4 55 (sRows (unionS l))]⟩ else none
    | none => none
  | _ => none
theorem ustep_in {out : List SP} {s : SP} (h : ∀ t ∈ out, inSP t) (hs : inSP s) : ∀ t ∈ ustep out s, inSP t := by
  intro t ht
  unfold ustep at ht
  split at ht
  · split at ht
    · rename_i hc _
      unfold setTo at ht
      rcases List.mem_or_eq_of_mem_set ht with ht | rfl
      · exact h t ht
      · have hlt : out.length - 1 < out.length := by omega
        have := h _ (List.getElem_mem hlt)
        rw [List.getD_eq_getElem?_getD, List.getElem?_eq_getElem hlt, Option.getD_some]
        exact ⟨this.1, this.2.1, this.2.2.1, this.2.2.2.1, hs.2.2.2.2.1, hs.2.2.2.2.2.1, hs.2.2.2.2.2.2.1, hs.2.2.2.2.2.2.2⟩
    · exact h t ht
  · rcases List.mem_append.1 ht with ht | ht
    · exact h t ht
    · simp only [List.mem_singleton] at ht; subst ht; exact hs
theorem ufold_in : ∀ (l out : List SP), (∀ t ∈ out, inSP t) → (∀ s ∈ l, inSP s) → ∀ t ∈ l.foldl ustep out, inSP t
  | [], out, h, _ => h
  | s :: l, out, h, hl => ufold_in l (ustep out s) (ustep_in h (hl s (by simp))) (fun x hx => hl x (by simp [hx]))
def M_f42 : Md := fun i => if i = 8 then some #[0, 1, 3, 7, 15, 7, 7, 71, 231, 487, 999, 2047, 4095, 8191] else if i = 9 then some #[0, 0, 2, 7, 15, 31, 0, 64, 255, 511] else some #[]
@[simp] theorem M_f42_eq {i : Nat} : M_f42 i = (if i = 8 then some #[0, 1, 3, 7, 15, 7, 7, 71, 231, 487, 999, 2047, 4095, 8191] else if i = 9 then some #[0, 0, 2, 7, 15, 31, 0, 64, 255, 511] else some #[]) := rfl
theorem runs_union : ∀ args r, SUni args = some r → Runs Try.prog 42 args r := by
  intro args r hh
  unfold SUni at hh
  split at hh
  · rename_i rows
    split at hh
    · rename_i l hl
      split at hh
      · rename_i hin
        obtain ⟨hin, hlen⟩ := hin
        cases hh
        have h1 := parse_eq spOf_eq hl
        subst h1
        change Runs Try.prog 42 [.rd 4 (sRows l)] _
        have hcl := runs_Clone_set (rows := sRows l) (by simp; omega)
        have hT : ((((T0.add 67 (oneS [.rd 4 (sRows l)] ⟨.own 0, [.sl 4 55 (sRows l)]⟩)).addC 68 (SortC 55 69 sortS)).add 71 SAft).add 55 SCompare).ok Try.prog :=
          Tab.add_ok (Tab.add_ok (Tab.addC_ok (Tab.add_ok (T0_ok _) (oneS_ok hcl)) (fun _ _ _ _ h => sort_set h)) runs_after) runs_number_Compare
        have hsin : ∀ s ∈ sortS l, inSP s := fun s hs => hin s (sortS_mem.1 hs)
        have hslen := sortS_len l
        refine Runs.of_body Try.func42 (by decide) rfl (by simp [Try.f42]) ?_
        refine W.seqE hT mixed M_f42 (by kernel_rfl) ?_
        simp [Try.f42]
        refine W.cut True [(0, .own 0)] [.sl 4 55 (sRows l)] 56 ?_ ?_
        · refine W.of_WE hT mixed M_f42 _ (by kernel_rfl) ?_
          simp [Try.f42, oneS_self]
        intro _
        refine W.cut True [(0, .own 0)] [.sl 4 55 (sRows (sortS l))] 56 ?_ ?_
        · refine W.of_WE hT mixed M_f42 _ (by kernel_rfl) ?_
          simp [Try.f42]
          refine ⟨0, l, rfl, rfl, by omega, ?_⟩
          intro s' e1 e2
          simp [e1, e2]
        intro _
        unfold unionS
        generalize sortS l = L at *
        refine W.wk (Wk.freeze 0 (.sl 4 55 (sRows L)) (by simp) (by simp)) ?_
        refine W.seqE hT mixed M_f42 (by kernel_rfl) ?_
        simp [Try.f42]
        refine W.wk (Wk.adopt 3 4 55 (by omega) (by simp)) ?_
        refine W.cut True [(3, .own 0)] [.sl 4 55 (sRows (L.foldl ustep []))] 56 ?_ ?_
        · refine W.seqE hT mixed M_f42 (by kernel_rfl) ?_
          simp [Try.f42]
          refine W.block (W.for (fun _ => True) (fun k => [(3, .own 0), (11, .rd 4 (sRows L)), (12, .int .i64 L.length), (13, .int .i64 k)]) (fun k => [.sl 4 55 (sRows ((L.take k).foldl ustep []))]) 56 L.length trivial ?_ ?_)
          · simp [sRows]
          · intro k hk _
            refine W.seqE hT mixed M_f42 (by kernel_rfl) ?_
            by_cases hlt : k < L.length
            · have hw1 : IntKind.i64.wrap ((k : Int) + 1) = k + 1 := wr_i64 (by omega) (by omega)
              have hft := ufold_take hlt
              have hfl := ufold_tlen (l := L) k hk
              have hfin := ufold_in (L.take k) [] (by simp) (fun s hs => hsin s (List.mem_of_mem_take hs))
              rw [hft]
              generalize (L.take k).foldl ustep [] = O at *
              obtain ⟨S, hS⟩ : ∃ S, S = L[k] := ⟨_, rfl⟩
              have hSin := hsin L[k] (List.getElem_mem hlt)
              rw [← hS] at hSin ⊢
              simp [hlt]
              refine W.seqE hT mixed M_f42 (by kernel_rfl) ?_
              simp
              refine W.cut True [(3, .own 0), (11, .rd 4 (sRows L)), (12, .int .i64 L.length), (13, .int .i64 k)] [.sl 4 55 (sRows (ustep O S))] 56 ?_ ?_
              · refine W.block ?_
                refine W.cut True [(3, .own 0), (5, .ptr 1 0), (11, .rd 4 (sRows L)), (12, .int .i64 L.length), (13, .int .i64 k)] [.sl 4 55 (sRows O), .box 55 S.row] 56 ?_ ?_
                · refine W.of_WE hT mixed M_f42 _ (by kernel_rfl) ?_
                  simp [hlt, ← hS, SP.row]
                intro _
                obtain ⟨s1, s2, s3, s4, s5, s6, s7, s8⟩ := hSin
                have hsn := sRows_snoc O S
                simp only [SP.row] at hsn
                have hwl : IntKind.i64.wrap (O.length : Int) = O.length := wr_i64 (by omega) (by omega)
                refine W.of_WE hT mixed M_f42 _ (by kernel_rfl) ?_
                by_cases hO : 0 < O.length
                · have hO' : (0 : Int) < O.length := by omega
                  have hn1 : O.length - 1 < O.length := by omega
                  have hwn : IntKind.i64.wrap ((O.length : Int) - 1) = O.length - 1 := wr_i64 (by omega) (by omega)
                  have hnn : ((O.length : Int) - 1).toNat = O.length - 1 := by omega
                  have hb1 : (0 : Int) ≤ (O.length : Int) - 1 := by omega
                  have hls : lastS O = O[O.length - 1] := by
                    unfold lastS
                    rw [List.getD_eq_getElem?_getD, List.getElem?_eq_getElem hn1, Option.getD_some]
                  obtain ⟨t1, t2, t3, t4, t5, t6, t7, t8⟩ := hfin _ (List.getElem_mem hn1)
                  have hta : inA O[O.length - 1].h' O[O.length - 1].l' := ⟨t5, t6, t7, t8⟩
                  have hset := setTo_rows (out := O) (by intro h; rw [h] at hO; simp at hO) (by omega) (S.h', S.l')
                  rw [hwn, hnn] at hset
                  have hset4 := hset.2.2.2
                  unfold ustep
                  rw [hls]
                  have hrow : (sRows O)[O.length - 1]? = some O[O.length - 1].row := sRows_get hn1
                  generalize hlast : O[O.length - 1] = tt at *
                  cases ha : aftB S.h S.l tt.h' tt.l'
                  · rw [if_pos ⟨hO, rfl⟩]
                    by_cases hc : cmpA tt.h' tt.l' S.h' S.l' < 0
                    · rw [if_pos hc, ← hset4]
                      simp [SP.row, hO, hO', hn1, hwn, hnn, hb1, hlast, SAft, hta, ha, SCompare, hc, hrow]
                      omega
                    · rw [if_neg hc]
                      simp [SP.row, hO, hO', hn1, hwn, hnn, hb1, hlast, SAft, hta, ha, SCompare, hc, hrow]
                      omega
                  · rw [if_neg (by simp), ← hsn]
                    simp [SP.row, hO, hO', hn1, hwn, hnn, hb1, hlast, SAft, hta, ha, hrow]
                    omega
                · have hO' : ¬ (0 : Int) < O.length := by omega
                  unfold ustep
                  rw [if_neg (fun h => hO h.1), ← hsn]
                  simp [SP.row, hO, hO']
                  omega
              · intro _
                refine W.of_WE hT mixed M_f42 _ (by kernel_rfl) ?_
                simp [hw1, hlt]
            · have : k = L.length := by omega
              subst this
              simp
              refine W.of_WE hT mixed M_f42 _ (by kernel_rfl) ?_
              simp
        · intro _
          refine W.of_WE hT mixed M_f42 _ (by kernel_rfl) ?_
          simp [Try.f42]
      · cases hh
    · cases hh
  · cases hh

end Go.Proofs.Ytnhgdkcddjbpgaa.AL
namespace Go.Proofs.Ytnhgdkcddjbpgaa.AL
open Go
attribute [local simp] qf cv qbin ibin sbin qun retPost rvOk ctV ctPost marksOk retV resAll resOf V.lt ltL V.ren renL V.exp V.exp1 cleanL V.clean closedL V.closed V.cells V.one V.tree
  loadV cellsAt isNC nilQ isSlD isIfD slNew ownRows ownCells V.isOwn slStore srcO qlook mlook mget mstr zval qnone qmake mput lmap isAggD placesOf fillV putCells lstore bound seqParts V.sh shL Blk.sh newV V.ok peqs peq srcRows appOk mmV mmR hidE V.fz fzL Blk.fz fzOk and_assoc
attribute [-simp] Int.not_le Int.not_lt Nat.not_le Nat.not_lt
def narS (s : SP) : AS := ⟨IntKind.u32.wrap s.l, IntKind.u32.wrap s.l'⟩
def SNar1 : List V → Option Res
  | [.agg [.int .u64 h, .int .u64 l, .int .u64 h', .int .u64 l']] => some ⟨.agg (narS ⟨h, l, h', l'⟩).row, []⟩
  | _ => none
theorem runs_resource_narrow : ∀ args r, SNar1 args = some r → Runs Try.prog 73 args r := by
  intro args r hh
  unfold SNar1 at hh
  split at hh
  · cases hh
    refine Runs.of_body Try.func73 (by decide) rfl (by simp [Try.f73]) ?_
    refine W.of_WE (T0_ok _) mixed M0 _ (by kernel_rfl) ?_
    simp [Try.f73, AS.row, narS]
  · cases hh
theorem aRows_nar_snoc {l : List SP} {k : Nat} (hk : k < l.length) : aRows ((l.take k).map narS) ++ [(narS l[k]).row] = aRows ((l.take (k + 1)).map narS) := by
  rw [take_snoc' l k hk]; simp only [aRows, List.map_append, List.map_cons, List.map_nil]
def SConvN : List V → Option Res
  | [.rd 4 rows, .fn 73 [] []] => match spsOf rows with
    | some l => if l.length ≤ 1000000 then some ⟨.own 0, [.sl 2 57 (aRows (l.map narS))]⟩ else none
    | none => none
  | _ => none
theorem runs_convert_narrow : ∀ args r, SConvN args = some r → Runs Try.prog 72 args r := by
  intro args r hh
  unfold SConvN at hh
  split at hh
  · rename_i rows
    split at hh
    · rename_i l hl
      split at hh
      · rename_i hlen
        cases hh
        have h1 := parse_eq spOf_eq hl
        subst h1
        have hT : (T0.add 73 SNar1).ok Try.prog := Tab.add_ok (T0_ok _) runs_resource_narrow
        refine Runs.of_body Try.func72 (by decide) rfl (by simp [Try.f72]) ?_
        refine W.seqE hT mixed M0 (by kernel_rfl) ?_
        simp [Try.f72]
        refine W.seqE hT mixed M0 (by kernel_rfl) ?_
        simp [Try.f72]
        refine W.wk (Wk.adopt 5 2 57 (by omega) (by simp)) ?_
        refine W.cut True [(5, .own 0)] [.sl 2 57 (aRows (l.map narS))] 22 ?_ ?_
        · refine W.seqE hT mixed M0 (by kernel_rfl) ?_
          simp [Try.f72]
          refine W.block (W.for (fun k => True) (fun k => [(1, .fn 73 [] []), (5, .own 0), (8, .rd 4 (sRows l)), (9, .int .i64 l.length), (10, .int .i64 k)]) (fun k => [.sl 2 57 (aRows ((l.take k).map narS))]) 22 l.length trivial ?_ ?_)
          · simp [sRows, aRows]
          · intro k hk _
            refine W.of_WE hT mixed M0 _ (by kernel_rfl) ?_
            by_cases hlt : k < l.length
            · have hw1 : IntKind.i64.wrap ((k : Int) + 1) = k + 1 := wr_i64 (by omega) (by omega)
              have hsn := aRows_nar_snoc hlt
              have hlk : (aRows ((l.take k).map narS)).length ≤ 1000000 := by rw [aRows_len]; simp; omega
              generalize aRows ((l.take k).map narS) = R at *
              generalize aRows ((l.take (k + 1)).map narS) = R' at *
              simp only [AS.row, narS] at hsn
              simp [hlt, AS.row, SNar1, hw1, SP.row, narS]
              exact ⟨by omega, by omega, hsn⟩
            · have : k = l.length := by omega
              subst this
              simp
        · intro _
          refine W.of_WE hT mixed M0 _ (by kernel_rfl) ?_
          simp [Try.f72]
      · cases hh
    · cases hh
  · cases hh
def big3 (a b c : List SP) : Bool := decide (200 < a.length) || decide (200 < b.length) || decide (200 < c.length)
def SMade : List V → Option Res
  | [.agg [.rd 4 ra, .rd 4 rb, .rd 4 rc]] => match spsOf ra, spsOf rb, spsOf rc with
    | some a, some b, some c => if a.length ≤ 1000000 ∧ b.length ≤ 1000000 ∧ c.length ≤ 1000000 then
        (if big3 a b c = true then some ⟨.tup [.agg [.nils, .nils, .nils], .int .i64 4], []⟩
          else some ⟨.tup [.agg [.own 0, .own 1, .own 2], .int .i64 0], [.sl 4 55 (sRows a), .sl 4 55 (sRows b), .sl 2 57 (aRows (c.map narS))]⟩) else none
    | _, _, _ => none
  | _ => none
def pick3 {α : Type} (a b c : α) : Nat → α
  | 0 => a
  | 1 => b
  | _ => c
def M_f43 : Md := fun i => if i = 7 then some #[0, 1, 3, 0, 8, 31, 0, 64, 255, 511, 1023, 2047] else some #[]
@[simp] theorem M_f43_eq {i : Nat} : M_f43 i = (if i = 7 then some #[0, 1, 3, 0, 8, 31, 0, 64, 255, 511, 1023, 2047] else some #[]) := rfl
theorem runs_made : ∀ args r, SMade args = some r → Runs Try.prog 43 args r := by
  intro args r hh
  unfold SMade at hh
  split at hh
  · rename_i ra rb rc
    split at hh
    · rename_i a b c ha hb hc
      split at hh
      · rename_i hlen
        obtain ⟨la, lb, lc⟩ := hlen
        have h1 := parse_eq spOf_eq ha
        have h2 := parse_eq spOf_eq hb
        have h3 := parse_eq spOf_eq hc
        subst h1 h2 h3
        change Runs Try.prog 43 [.agg [.rd 4 (sRows a), .rd 4 (sRows b), .rd 4 (sRows c)]] r
        have ca := runs_Clone_set (rows := sRows a) (by simpa using la)
        have cb := runs_Clone_set (rows := sRows b) (by simpa using lb)
        have hcn : SConvN [.rd 4 (sRows c), .fn 73 [] []] = some ⟨.own 0, [.sl 2 57 (aRows (c.map narS))]⟩ := by
          simp only [SConvN, sRows_parse]; rw [if_pos lc]
        have hCl : ∀ args r, SClo [sRows a, sRows b] args = some r → Runs Try.prog 67 args r := fun args r h => SClo_ok (fun rows hr => by
          rcases List.mem_cons.1 hr with rfl | hr
          · exact ca
          · simp only [List.mem_singleton] at hr; subst hr; exact cb) h
        have e0 : SClo [sRows a, sRows b] [.rd 4 (sRows a)] = some ⟨.own 0, [.sl 4 55 (sRows a)]⟩ := SClo_at (by simp)
        have e1 : SClo [sRows a, sRows b] [.rd 4 (sRows b)] = some ⟨.own 0, [.sl 4 55 (sRows b)]⟩ := SClo_at (by simp)
        have hT : ((T0.add 67 (SClo [sRows a, sRows b])).add 72 SConvN).ok Try.prog := Tab.add_ok (Tab.add_ok (T0_ok _) hCl) runs_convert_narrow
        refine Runs.of_body Try.func43 (by decide) rfl (by simp [Try.f43]) ?_
        refine W.seqE hT mixed M_f43 (by kernel_rfl) ?_
        simp [Try.f43]
        by_cases hbig : big3 a b c = true
        · rw [if_pos hbig] at hh
          cases hh
          unfold big3 at hbig
          simp only [Bool.or_eq_true, decide_eq_true_eq] at hbig
          refine W.cut False [] [] 25 ?_ ?_
          · refine W.seqE hT mixed M_f43 (by kernel_rfl) ?_
            simp [Try.f43]
            refine W.block (W.for (fun k => (0 < k → ¬ 200 < a.length) ∧ (1 < k → ¬ 200 < b.length) ∧ k < 3) (fun k => [(1, .ptr 0 0), (2, .ptr 1 0), (6, .agg [.rd 4 (sRows a), .rd 4 (sRows b), .rd 4 (sRows c)]), (7, .int .i64 k)]) (fun k => [.box 64 [.rd 4 (sRows a), .rd 4 (sRows b), .rd 4 (sRows c)], .box 25 [.nils, .nils, .nils]]) 25 3 (by simp) ?_ ?_)
            · simp
            · intro k hk hJ
              refine W.of_WE hT mixed M_f43 _ (by kernel_rfl) ?_
              match k, hk, hJ with
              | 0, _, _ =>
                by_cases b1 : (200 : Int) < a.length
                · simp [b1]
                · have b1' : ¬ 200 < a.length := by omega
                  simp [b1]
                  exact ⟨by omega, rfl⟩
              | 1, _, hJ =>
                have g := hJ.1 (by omega)
                by_cases b1 : (200 : Int) < b.length
                · simp [b1]
                · have b1' : ¬ 200 < b.length := by omega
                  simp [b1]
                  exact ⟨by omega, by omega, rfl⟩
              | 2, _, hJ =>
                have g := hJ.1 (by omega)
                have g2 := hJ.2.1 (by omega)
                have b1 : (200 : Int) < c.length := by omega
                simp [b1]
              | 3, _, hJ => exact absurd hJ.2.2 (by omega)
          · intro h
            exact h.elim
        · rw [if_neg hbig] at hh
          cases hh
          unfold big3 at hbig
          simp only [Bool.or_eq_true, decide_eq_true_eq] at hbig
          refine W.cut True [(1, .ptr 0 0), (2, .ptr 1 0)] [.box 64 [.rd 4 (sRows a), .rd 4 (sRows b), .rd 4 (sRows c)], .box 25 [.nils, .nils, .nils]] 25 ?_ ?_
          · refine W.seqE hT mixed M_f43 (by kernel_rfl) ?_
            simp [Try.f43]
            refine W.block (W.for (fun k => True) (fun k => [(1, .ptr 0 0), (2, .ptr 1 0), (6, .agg [.rd 4 (sRows a), .rd 4 (sRows b), .rd 4 (sRows c)]), (7, .int .i64 k)]) (fun k => [.box 64 [.rd 4 (sRows a), .rd 4 (sRows b), .rd 4 (sRows c)], .box 25 [.nils, .nils, .nils]]) 25 3 trivial ?_ ?_)
            · simp
            · intro k hk _
              refine W.of_WE hT mixed M_f43 _ (by kernel_rfl) ?_
              have b1 : ¬ (200 : Int) < a.length := by omega
              have b2 : ¬ (200 : Int) < b.length := by omega
              have b3 : ¬ (200 : Int) < c.length := by omega
              match k, hk with
              | 0, _ => simp [b1]; rfl
              | 1, _ => simp [b2]; rfl
              | 2, _ => simp [b3]; rfl
              | 3, _ => simp
          · intro _
            refine W.of_WE hT mixed M_f43 _ (by kernel_rfl) ?_
            simp [Try.f43, e0, e1, hcn]
            exact ⟨18, 42, by decide, 66, by decide, by decide, by simp, by simp, by simp, rfl, rfl, rfl⟩
      · cases hh
    · cases hh
  · cases hh

end Go.Proofs.Ytnhgdkcddjbpgaa.AL
namespace Go.Proofs.Ytnhgdkcddjbpgaa.AL
open Go
attribute [local simp] qf cv qbin ibin sbin qun retPost rvOk ctV ctPost marksOk retV resAll resOf V.lt ltL V.ren renL V.exp V.exp1 cleanL V.clean closedL V.closed V.cells V.one V.tree
  loadV cellsAt isNC nilQ isSlD isIfD slNew ownRows ownCells V.isOwn slStore srcO qlook mlook mget mstr zval qnone qmake mput lmap isAggD placesOf fillV putCells lstore bound seqParts V.sh shL Blk.sh newV V.ok peqs peq srcRows appOk mmV mmR hidE V.fz fzL Blk.fz fzOk and_assoc
attribute [-simp] Int.not_le Int.not_lt Nat.not_le Nat.not_lt
/-- What comes out of three sets: too many, or the resources. -/
def outR (a b c : List SP) : RS := ⟨a, b, c.map narS⟩
def SMakeR : List V → Option Res
  | [.agg cs] => match rsOf cs with
    | some r => if inRS r ∧ lenRS 1000000 r then
        (if chkdR r ≠ 0 then some ⟨.tup [.agg [.nils, .nils, .nils], .int .i64 (chkdR r)], []⟩
          else if big3 (unionS r.l4) (unionS r.l6) (unionS (r.la.map wideS)) = true then some ⟨.tup [.agg [.nils, .nils, .nils], .int .i64 4], []⟩
          else some ⟨.tup [.agg [.own 0, .own 1, .own 2], .int .i64 0], [.sl 4 55 (sRows (unionS r.l4)), .sl 4 55 (sRows (unionS r.l6)), .sl 2 57 (aRows ((unionS (r.la.map wideS)).map narS))]⟩) else none
    | none => none
  | _ => none
theorem unionS_in {l : List SP} (h : ∀ s ∈ l, inSP s) : ∀ s ∈ unionS l, inSP s := ufold_in (sortS l) [] (by simp) (fun s hs => h s (sortS_mem.1 hs))
theorem unionS_len (l : List SP) : (unionS l).length ≤ l.length := by
  have := ufold_len (sortS l) []
  rw [sortS_len] at this
  simpa [unionS] using this
theorem uni_at {l : List SP} (h : ∀ s ∈ l, inSP s) (hl : l.length ≤ 1000) : SUni [.rd 4 (sRows l)] = some ⟨.own 0, [.sl 4 55 (sRows (unionS l))]⟩ := by
  simp only [SUni, sRows_parse]
  rw [if_pos ⟨h, hl⟩]
theorem made_at {a b c : List SP} (la : a.length ≤ 1000000) (lb : b.length ≤ 1000000) (lc : c.length ≤ 1000000) : SMade [.agg [.rd 4 (sRows a), .rd 4 (sRows b), .rd 4 (sRows c)]] =
    (if big3 a b c = true then some ⟨.tup [.agg [.nils, .nils, .nils], .int .i64 4], []⟩
          else some ⟨.tup [.agg [.own 0, .own 1, .own 2], .int .i64 0], [.sl 4 55 (sRows a), .sl 4 55 (sRows b), .sl 2 57 (aRows (c.map narS))]⟩) := by
  simp only [SMade, sRows_parse]
  rw [if_pos ⟨la, lb, lc⟩]
def M_f16 : Md := fun i => some #[]
@[simp] theorem M_f16_eq {i : Nat} : M_f16 i = (some #[]) := rfl
theorem runs_resource_Make : ∀ args r, SMakeR args = some r → Runs Try.prog 16 args r := by
  intro args r hh
  unfold SMakeR at hh
  split at hh
  · rename_i cs
    split at hh
    · rename_i q hq
      split at hh
      · rename_i hin
        obtain ⟨hin, hlen⟩ := hin
        have h1 := rsOf_eq hq
        subst h1
        have hcd := chkd_at hin hlen
        have hse := sets_at hin hlen
        simp only [RS.cells] at hcd hse ⊢
        have hT : ((((T0.add 41 SChkd).add 28 SSets).add 42 SUni).add 43 SMade).ok Try.prog := Tab.add_ok (Tab.add_ok (Tab.add_ok (Tab.add_ok (T0_ok _) runs_checked) runs_resource_sets) runs_union) runs_made
        refine Runs.of_body Try.func16 (by decide) rfl (by simp [Try.f16]) ?_
        refine W.seqE hT mixed M_f16 (by kernel_rfl) ?_
        simp [Try.f16]
        by_cases hz : chkdR q = 0
        · rw [if_neg (by omega)] at hh
          have hL := (chkdR_0.1 hz).1
          have l4 : q.l4.length ≤ 1000 := by have := hL 0 (by omega); simp only [RS.lst] at this; omega
          have l6 : q.l6.length ≤ 1000 := by have := hL 1 (by omega); simp only [RS.lst] at this; omega
          have la : (q.la.map wideS).length ≤ 1000 := by have := hL 2 (by omega); simp only [RS.lst] at this; omega
          have wa : ∀ s ∈ q.la.map wideS, inSP s := fun s hs => by obtain ⟨t, ht, rfl⟩ := List.mem_map.1 hs; exact inSP_wide (hin.2.2 t ht)
          have u4 := uni_at hin.1 l4
          have u6 := uni_at hin.2.1 l6
          have ua := uni_at wa la
          have m := made_at (a := unionS q.l4) (b := unionS q.l6) (c := unionS (q.la.map wideS)) (by have := unionS_len q.l4; omega) (by have := unionS_len q.l6; omega) (by have := unionS_len (q.la.map wideS); omega)
          rw [hz] at hcd
          refine W.cut True [(1, .ptr 0 0), (2, .ptr 1 0)] [.box 25 [.rd 4 (sRows q.l4), .rd 4 (sRows q.l6), .rd 2 (aRows q.la)], .box 25 [.nils, .nils, .nils]] 29 ?_ ?_
          · refine W.of_WE hT mixed M_f16 _ (by kernel_rfl) ?_
            simp [Try.f16, hcd]
          intro _
          refine W.seqE hT mixed M_f16 (by kernel_rfl) ?_
          simp [Try.f16, hse]
          generalize q.la.map wideS = lw at *
          refine W.cut True [(2, .ptr 0 0), (5, .ptr 1 0)] [.box 25 [.nils, .nils, .nils], .box 64 [.rd 4 (sRows (unionS q.l4)), .rd 4 (sRows (unionS q.l6)), .rd 4 (sRows (unionS lw))]] 29 ?_ ?_
          · refine W.seqE hT mixed M_f16 (by kernel_rfl) ?_
            simp [Try.f16]
            refine W.block (W.for (fun _ => True) (fun k => [(2, .ptr 0 0), (5, .ptr 1 0), (15, .int .i64 k)])
              (fun k => [.box 25 [.nils, .nils, .nils], .box 64 [.rd 4 (sRows (if 0 < k then unionS q.l4 else q.l4)), .rd 4 (sRows (if 1 < k then unionS q.l6 else q.l6)), .rd 4 (sRows (if 2 < k then unionS lw else lw))]]) 29 3 trivial ?_ ?_)
            · simp
            · intro k hk _
              match k, hk with
              | 0, _ =>
                refine W.seqE hT mixed M_f16 (by kernel_rfl) ?_
                simp
                refine W.seqE hT mixed M_f16 (by kernel_rfl) ?_
                simp
                refine W.cut True [(2, .ptr 0 0), (5, .ptr 1 0), (15, .int .i64 0)] [.box 25 [.nils, .nils, .nils], .box 64 [.own 2, .rd 4 (sRows q.l6), .rd 4 (sRows lw)], .sl 4 55 (sRows (unionS q.l4))] 29 ?_ ?_
                · refine W.of_WE hT mixed M_f16 _ (by kernel_rfl) ?_
                  simp [u4]
                intro _
                refine W.wk (Wk.freeze 2 (.sl 4 55 (sRows (unionS q.l4))) (by simp) (by simp)) ?_
                refine W.of_WE hT mixed M_f16 _ (by kernel_rfl) ?_
                simp
                rfl
              | 1, _ =>
                refine W.seqE hT mixed M_f16 (by kernel_rfl) ?_
                simp
                refine W.seqE hT mixed M_f16 (by kernel_rfl) ?_
                simp
                refine W.cut True [(2, .ptr 0 0), (5, .ptr 1 0), (15, .int .i64 1)] [.box 25 [.nils, .nils, .nils], .box 64 [.rd 4 (sRows (unionS q.l4)), .own 2, .rd 4 (sRows lw)], .sl 4 55 (sRows (unionS q.l6))] 29 ?_ ?_
                · refine W.of_WE hT mixed M_f16 _ (by kernel_rfl) ?_
                  simp [u6]
                intro _
                refine W.wk (Wk.freeze 2 (.sl 4 55 (sRows (unionS q.l6))) (by simp) (by simp)) ?_
                refine W.of_WE hT mixed M_f16 _ (by kernel_rfl) ?_
                simp
                rfl
              | 2, _ =>
                refine W.seqE hT mixed M_f16 (by kernel_rfl) ?_
                simp
                refine W.seqE hT mixed M_f16 (by kernel_rfl) ?_
                simp
                refine W.cut True [(2, .ptr 0 0), (5, .ptr 1 0), (15, .int .i64 2)] [.box 25 [.nils, .nils, .nils], .box 64 [.rd 4 (sRows (unionS q.l4)), .rd 4 (sRows (unionS q.l6)), .own 2], .sl 4 55 (sRows (unionS lw))] 29 ?_ ?_
                · refine W.of_WE hT mixed M_f16 _ (by kernel_rfl) ?_
                  simp [ua]
                intro _
                refine W.wk (Wk.freeze 2 (.sl 4 55 (sRows (unionS lw))) (by simp) (by simp)) ?_
                refine W.of_WE hT mixed M_f16 _ (by kernel_rfl) ?_
                simp
                rfl
              | 3, _ =>
                refine W.of_WE hT mixed M_f16 _ (by kernel_rfl) ?_
                simp
          intro _
          refine W.of_WE hT mixed M_f16 _ (by kernel_rfl) ?_
          cases hb : big3 (unionS q.l4) (unionS q.l6) (unionS lw)
          · rw [hb] at hh m
            cases hh
            simp only [Bool.false_eq_true, if_false] at m
            simp [Try.f16, m]
            exact ⟨10, 11, by decide, 12, by decide, by decide, by simp, by simp, by simp, rfl, rfl, rfl⟩
          · rw [hb] at hh m
            cases hh
            simp only [if_true] at m
            simp [Try.f16, m]
        · rw [if_pos hz] at hh
          cases hh
          refine W.of_WE hT mixed M_f16 _ (by kernel_rfl) ?_
          simp [Try.f16, hcd, hz]
      · cases hh
    · cases hh
  · cases hh

end Go.Proofs.Ytnhgdkcddjbpgaa.AL
namespace Go.Proofs.Ytnhgdkcddjbpgaa.AL
open Go
/-- A nil slice that a box holds is a row of the call's own, with no element. -/
theorem Wk.adoptB {P : Program} [Gl P] {s : St} (b0 i : Nat) (sz : Nat) (ty : TypeId) {bt : TypeId} {cells : List V} (hsz : 0 < sz) (hb : s.hp b0 = some (.box bt cells)) (hi : cells[i]? = some .nils) :
    Wk P s (((s.setB b0 (.box bt (cells.set i (.own s.nx)))).setB s.nx (.sl sz ty [])).setN (s.nx + 1)) := by
  intro X E a hs
  obtain ⟨E', hE'⟩ : ∃ E' : Env, E' = { w := E.w, O := E.O, σ := upd E.σ s.nx (.slice none 0 0), D := fun b => E.D b ∨ b = s.nx } := ⟨_, rfl⟩
  have hne : ∀ b, E.D b → b ≠ s.nx := fun b hb => by have := hs.nx b hb; omega
  have hle : E.le E' := by
    subst hE'
    exact ⟨fun b h => .inl h, fun b h => upd_other _ _ (hne b h), Nat.le_refl _, fun _ _ h => ⟨rfl, h⟩⟩
  have hσn : E'.σ s.nx = .slice none 0 0 := by subst hE'; exact upd_same _ _ _
  have hw : E'.w = E.w := by subst hE'; rfl
  have hO : E'.O = E.O := by subst hE'; rfl
  have hD : ∀ b, E'.D b ↔ E.D b ∨ b = s.nx := fun b => by subst hE'; exact Iff.rfl
  have hbne : b0 ≠ s.nx := hne b0 (hs.hp.blk b0 _ hb).1
  have hBx : BRel X.F E' (E'.σ b0) (.box bt (cells.set i (.own s.nx))) := by
    obtain ⟨h1, h2⟩ := hs.hp.blk b0 _ hb
    have h3 := h2.keep (E' := E') hle (fun g hg => by rw [hO]; exact hg) (fun g _ => by rw [hw])
    rw [hle.σ b0 h1]
    simp only [BRel] at h3 ⊢
    obtain ⟨g, arr, hσ, hh, hR, h1, hF, hO1⟩ := h3
    refine ⟨g, arr, hσ, hh, ?_, h1, hF, hO1⟩
    obtain ⟨v, hv, hRv⟩ := RL.get hR hi
    simp only [R] at hRv
    have hR2 := RL.set (E := E') (c := .own s.nx) (v := v) (by simp only [R]; exact ⟨(hD _).2 (.inr rfl), hRv.trans hσn.symm, _, _, _, hRv⟩) i hR
    have e : arr.toList.set i v = arr.toList := by
      refine List.ext_getElem? fun k => ?_
      rw [List.getElem?_set]
      split
      · rename_i e; subst e
        split
        · exact hv.symm
        · rename_i h; rw [List.getElem?_eq_none (by omega)]
      · rfl
    rw [e] at hR2
    exact hR2
  have hH : HRel X.F E' (upd (upd s.hp b0 (some (.box bt (cells.set i (.own s.nx))))) s.nx (some (.sl sz ty []))) := by
    have old : ∀ b x, b ≠ s.nx → (upd s.hp b0 (some (.box bt (cells.set i (.own s.nx))))) b = some x → E.D b ∧ (∃ y, s.hp b = some y) ∧ BRel X.F E' (E'.σ b) x := by
      intro b x e hx
      by_cases e2 : b = b0
      · subst e2
        rw [upd_same] at hx
        cases hx
        exact ⟨(hs.hp.blk b _ hb).1, ⟨_, hb⟩, hBx⟩
      · rw [upd_other _ _ e2] at hx
        obtain ⟨h1, h2⟩ := hs.hp.blk b x hx
        refine ⟨h1, ⟨_, hx⟩, ?_⟩
        rw [hle.σ b h1]
        exact h2.keep hle (fun g hg => by rw [hO]; exact hg) (fun g _ => by rw [hw])
    refine ⟨fun b x hx => ?_, fun b b' x x' g hx hx' hg hg' => ?_⟩
    · by_cases e : b = s.nx
      · subst e
        simp only [upd_same, Option.some.injEq] at hx
        subst hx
        refine ⟨(hD _).2 (.inr rfl), ?_⟩
        rw [hσn]
        exact .inr ⟨rfl, hsz, none, rfl⟩
      · rw [upd_other _ _ e] at hx
        obtain ⟨h1, _, h2⟩ := old b x e hx
        exact ⟨(hD _).2 (.inl h1), h2⟩
    · by_cases e : b = s.nx
      · rw [e, hσn] at hg
        simp [blkOf] at hg
      · by_cases e' : b' = s.nx
        · rw [e', hσn] at hg'
          simp [blkOf] at hg'
        · rw [upd_other _ _ e] at hx
          rw [upd_other _ _ e'] at hx'
          obtain ⟨d1, ⟨y, hy⟩, _⟩ := old b x e hx
          obtain ⟨d2, ⟨y', hy'⟩, _⟩ := old b' x' e' hx'
          rw [hle.σ b d1] at hg
          rw [hle.σ b' d2] at hg'
          exact hs.hp.sep b b' y y' g hy hy' hg hg'
  refine ⟨E', hw, ⟨⟨⟨hH, fun g => R.mono hle _ _ (hs.gl g), by rw [hO]; exact hs.AO, by rw [hw]; exact hs.Fz, by rw [hO]; exact hs.OA, by rw [hO, hw]; exact hs.Oz⟩, hs.top, fun hk => X.Km E E' hle (hs.kp hk), hs.defers.mono hle, hs.nt, fun t' => R.mono hle _ _ (hs.tm t')⟩, fun b hb => ?_⟩⟩
  show b < s.nx + 1
  rcases (hD b).1 hb with h | h
  · have := hs.nx b h; omega
  · omega
end Go.Proofs.Ytnhgdkcddjbpgaa.AL
namespace Go.Proofs.Ytnhgdkcddjbpgaa.AL
open Go
attribute [local simp] qf cv qbin ibin sbin qun retPost rvOk ctV ctPost marksOk retV resAll resOf V.lt ltL V.ren renL V.exp V.exp1 cleanL V.clean closedL V.closed V.cells V.one V.tree
  loadV cellsAt isNC nilQ isSlD isIfD slNew ownRows ownCells V.isOwn slStore srcO qlook mlook mget mstr zval qnone qmake mput lmap isAggD placesOf fillV putCells lstore bound seqParts V.sh shL Blk.sh newV V.ok peqs peq srcRows appOk mmV mmR hidE V.fz fzL Blk.fz fzOk and_assoc
attribute [-simp] Int.not_le Int.not_lt Nat.not_le Nat.not_lt
/-- The reference's three sets out of two lists of resources. -/
def D4 (d : Int) (a b : RS) : List SP := doneL d 4 a.l4 b.l4
def D6 (d : Int) (a b : RS) : List SP := doneL d 6 a.l6 b.l6
def DA (d : Int) (a b : RS) : List SP := doneL d 4 (a.la.map wideS) (b.la.map wideS)
def SAllD : List V → Option Res
  | [.int .i64 d, .agg ca, .agg cb] => match rsOf ca, rsOf cb with
    | some a, some b => if inRS a ∧ inRS b ∧ lenRS 1000 a ∧ lenRS 1000 b then
        (if big3 (D4 d a b) (D6 d a b) (DA d a b) = true then some ⟨.tup [.agg [.nils, .nils, .nils], .int .i64 4], []⟩
          else some ⟨.tup [.agg [.rd 4 (sRows (D4 d a b)), .rd 4 (sRows (D6 d a b)), .rd 2 (aRows ((DA d a b).map narS))], .int .i64 0], []⟩) else none
    | _, _ => none
  | _ => none
theorem lists_atA {r : RS} (hin : inRS r) (hlen : lenRS 1000 r) : SLists [.agg [.rd 4 (sRows r.l4), .rd 4 (sRows r.l6), .rd 2 (aRows r.la)]] = some ⟨.tup [.rd 1 [[.rd 4 (sRows r.l4)], [.rd 4 (sRows r.l6)], [.rd 4 (sRows (r.la.map wideS))]], .rd 1 famRows], []⟩ := by
  simp only [SLists, aRows_parse]
  rw [if_pos ⟨hin.2.2, by have := hlen.2.2; omega⟩]
theorem done_atA {d f : Int} {a b : List SP} (ha : ∀ s ∈ a, inSP s) (hb : ∀ s ∈ b, inSP s) (la : a.length ≤ 1000) (lb : b.length ≤ 1000) (hf : f = 4 ∨ f = 6) :
    SDone [.int .i64 d, .int .u8 f, .rd 4 (sRows a), .rd 4 (sRows b)] = some ⟨.own 0, [.sl 4 55 (sRows (doneL d f a b))]⟩ := by
  simp only [SDone, sRows_parse]
  rw [if_pos ⟨ha, hb, la, lb, hf⟩]
def M_f45 : Md := fun i => if i = 7 then some #[0, 0, 0, 0, 12, 28, 0, 0, 192, 448, 0, 0, 3072, 7168, 16382, 32766, 65535, 131071] else if i = 10 then some #[0, 1, 3, 0, 8, 24, 63, 0, 255] else if i = 14 then some #[0, 1, 0, 4, 12, 0, 60, 124, 252, 508, 1020, 0, 2048, 6144, 0, 30720, 63488, 129024, 260096, 522240, 1048572, 2097148, 4194303, 8388607, 16777215] else some #[]
@[simp] theorem M_f45_eq {i : Nat} : M_f45 i = (if i = 7 then some #[0, 0, 0, 0, 12, 28, 0, 0, 192, 448, 0, 0, 3072, 7168, 16382, 32766, 65535, 131071] else if i = 10 then some #[0, 1, 3, 0, 8, 24, 63, 0, 255] else if i = 14 then some #[0, 1, 0, 4, 12, 0, 60, 124, 252, 508, 1020, 0, 2048, 6144, 0, 30720, 63488, 129024, 260096, 522240, 1048572, 2097148, 4194303, 8388607, 16777215] else some #[]) := rfl
theorem runs_ref03_All : ∀ args r, SAllD args = some r → Runs Try.prog 45 args r := by
  intro args r hh
  unfold SAllD at hh
  split at hh
  · rename_i d ca cb
    split at hh
    · rename_i a b ha hb
      split at hh
      · rename_i hin
        obtain ⟨ia, ib, la, lb⟩ := hin
        have h1 := rsOf_eq ha
        have h2 := rsOf_eq hb
        subst h1 h2
        have ea := lists_atA ia la
        have eb := lists_atA ib lb
        have e4 := done_atA (d := d) (f := 4) ia.1 ib.1 la.1 lb.1 (.inl rfl)
        have e6 := done_atA (d := d) (f := 6) ia.2.1 ib.2.1 la.2.1 lb.2.1 (.inr rfl)
        have eA := done_atA (d := d) (f := 4) (a := a.la.map wideS) (b := b.la.map wideS) (fun s hs => by obtain ⟨t, ht, rfl⟩ := List.mem_map.1 hs; exact inSP_wide (ia.2.2 t ht)) (fun s hs => by obtain ⟨t, ht, rfl⟩ := List.mem_map.1 hs; exact inSP_wide (ib.2.2 t ht)) (by simpa using la.2.2) (by simpa using lb.2.2) (.inl rfl)
        change SDone _ = some ⟨.own 0, [.sl 4 55 (sRows (D4 d a b))]⟩ at e4
        change SDone _ = some ⟨.own 0, [.sl 4 55 (sRows (D6 d a b))]⟩ at e6
        change SDone _ = some ⟨.own 0, [.sl 4 55 (sRows (DA d a b))]⟩ at eA
        have hT : ((T0.add 26 SLists).add 31 SDone).ok Try.prog := Tab.add_ok (Tab.add_ok (T0_ok _) runs_ref03_lists) runs_ref03_done
        simp only [RS.cells]
        refine Runs.of_body Try.func45 (by decide) rfl (by simp [Try.f45]) ?_
        generalize D4 d a b = A4 at *
        generalize D6 d a b = A6 at *
        generalize DA d a b = AA at *
        generalize sRows a.l4 = xa4 at *
        generalize sRows a.l6 = xa6 at *
        generalize aRows a.la = xaa at *
        generalize sRows (a.la.map wideS) = xaw at *
        generalize sRows b.l4 = xb4 at *
        generalize sRows b.l6 = xb6 at *
        generalize aRows b.la = xba at *
        generalize sRows (b.la.map wideS) = xbw at *
        refine W.seqE hT mixed M_f45 (by kernel_rfl) ?_
        simp [Try.f45]
        refine W.seqE hT mixed M_f45 (by kernel_rfl) ?_
        simp [ea]
        refine W.seqE hT mixed M_f45 (by kernel_rfl) ?_
        simp [eb]
        refine W.seqE hT mixed M_f45 (by kernel_rfl) ?_
        simp
        refine W.wk (Wk.adopt 12 1 22 (by omega) (by simp)) ?_
        obtain ⟨R3, hR3⟩ : ∃ R3, R3 = [[V.rd 4 (sRows A4)], [V.rd 4 (sRows A6)], [V.rd 4 (sRows AA)]] := ⟨_, rfl⟩
        refine W.cut (big3 A4 A6 AA = false) [(6, .ptr 0 0), (12, .own 1)] [.box 25 [.nils, .nils, .nils], .sl 1 22 R3] 94 ?_ ?_
        · refine W.seqE hT mixed M_f45 (by kernel_rfl) ?_
          simp
          refine W.block (W.for (fun k => (0 < k → ¬ 200 < A4.length) ∧ (1 < k → ¬ 200 < A6.length) ∧ (2 < k → ¬ 200 < AA.length)) (fun k => [(0, .int .i64 d), (6, .ptr 0 0), (8, .rd 1 [[.rd 4 xa4], [.rd 4 xa6], [.rd 4 xaw]]), (9, .rd 1 famRows), (10, .rd 1 [[.rd 4 xb4], [.rd 4 xb6], [.rd 4 xbw]]), (12, .own 1), (13, .int .i64 k)])
            (fun k => [.box 25 [.nils, .nils, .nils], .sl 1 22 (R3.take k)]) 94 3 (by simp) ?_ ?_)
          · simp
          · intro k hk hJ
            match k, hk, hJ with
            | 0, _, hJ =>
              subst hR3
              refine W.seqE hT mixed M_f45 (by kernel_rfl) ?_
              simp
              refine W.seq (W.block ?_)
              refine W.cut True [(0, .int .i64 d), (6, .ptr 0 0), (8, .rd 1 [[.rd 4 xa4], [.rd 4 xa6], [.rd 4 xaw]]), (9, .rd 1 famRows), (10, .rd 1 [[.rd 4 xb4], [.rd 4 xb6], [.rd 4 xbw]]), (12, .own 1), (13, .int .i64 0)] [.box 25 [.nils, .nils, .nils], .slo 1 22 [[.own 2]], .sl 4 55 (sRows A4)] 94 ?_ ?_
              · refine W.of_WE hT mixed M_f45 _ (by kernel_rfl) ?_
                simp [e4, famRows, famK]
              intro _
              refine W.wk (Wk.freeze 2 (.sl 4 55 (sRows A4)) (by simp) (by simp)) ?_
              refine W.wk (Wk.clean 1 1 22 [[.rd 4 (sRows A4)]] (by simp) (by simp)) ?_
              refine W.of_WE hT mixed M_f45 _ (by kernel_rfl) ?_
              by_cases hl : (200 : Int) < A4.length
              · have hb : big3 A4 A6 AA = true := by
                  unfold big3
                  simp only [Bool.or_eq_true, decide_eq_true_eq]
                  omega
                rw [if_pos hb] at hh
                cases hh
                simp [hl, sRows_len]
              · simp [hl, sRows_len]
                refine W.of_WE hT mixed M_f45 _ (by kernel_rfl) ?_
                simp
                have w1 : IntKind.i64.wrap 1 = 1 := rfl
                have w2 : IntKind.i64.wrap 2 = 2 := rfl
                have w3 : IntKind.i64.wrap 3 = 3 := rfl
                omega
            | 1, _, hJ =>
              subst hR3
              refine W.seqE hT mixed M_f45 (by kernel_rfl) ?_
              simp
              refine W.seq (W.block ?_)
              refine W.cut True [(0, .int .i64 d), (6, .ptr 0 0), (8, .rd 1 [[.rd 4 xa4], [.rd 4 xa6], [.rd 4 xaw]]), (9, .rd 1 famRows), (10, .rd 1 [[.rd 4 xb4], [.rd 4 xb6], [.rd 4 xbw]]), (12, .own 1), (13, .int .i64 1)] [.box 25 [.nils, .nils, .nils], .slo 1 22 [[.rd 4 (sRows A4)], [.own 2]], .sl 4 55 (sRows A6)] 94 ?_ ?_
              · refine W.of_WE hT mixed M_f45 _ (by kernel_rfl) ?_
                simp [e6, famRows, famK]
              intro _
              refine W.wk (Wk.freeze 2 (.sl 4 55 (sRows A6)) (by simp) (by simp)) ?_
              refine W.wk (Wk.clean 1 1 22 [[.rd 4 (sRows A4)], [.rd 4 (sRows A6)]] (by simp) (by simp)) ?_
              refine W.of_WE hT mixed M_f45 _ (by kernel_rfl) ?_
              by_cases hl : (200 : Int) < A6.length
              · have hb : big3 A4 A6 AA = true := by
                  unfold big3
                  simp only [Bool.or_eq_true, decide_eq_true_eq]
                  omega
                rw [if_pos hb] at hh
                cases hh
                simp [hl, sRows_len]
              · simp [hl, sRows_len]
                refine W.of_WE hT mixed M_f45 _ (by kernel_rfl) ?_
                simp
                have w1 : IntKind.i64.wrap 1 = 1 := rfl
                have w2 : IntKind.i64.wrap 2 = 2 := rfl
                have w3 : IntKind.i64.wrap 3 = 3 := rfl
                omega
            | 2, _, hJ =>
              subst hR3
              refine W.seqE hT mixed M_f45 (by kernel_rfl) ?_
              simp
              refine W.seq (W.block ?_)
              refine W.cut True [(0, .int .i64 d), (6, .ptr 0 0), (8, .rd 1 [[.rd 4 xa4], [.rd 4 xa6], [.rd 4 xaw]]), (9, .rd 1 famRows), (10, .rd 1 [[.rd 4 xb4], [.rd 4 xb6], [.rd 4 xbw]]), (12, .own 1), (13, .int .i64 2)] [.box 25 [.nils, .nils, .nils], .slo 1 22 [[.rd 4 (sRows A4)], [.rd 4 (sRows A6)], [.own 2]], .sl 4 55 (sRows AA)] 94 ?_ ?_
              · refine W.of_WE hT mixed M_f45 _ (by kernel_rfl) ?_
                simp [eA, famRows, famK]
              intro _
              refine W.wk (Wk.freeze 2 (.sl 4 55 (sRows AA)) (by simp) (by simp)) ?_
              refine W.wk (Wk.clean 1 1 22 [[.rd 4 (sRows A4)], [.rd 4 (sRows A6)], [.rd 4 (sRows AA)]] (by simp) (by simp)) ?_
              refine W.of_WE hT mixed M_f45 _ (by kernel_rfl) ?_
              by_cases hl : (200 : Int) < AA.length
              · have hb : big3 A4 A6 AA = true := by
                  unfold big3
                  simp only [Bool.or_eq_true, decide_eq_true_eq]
                  omega
                rw [if_pos hb] at hh
                cases hh
                simp [hl, sRows_len]
              · simp [hl, sRows_len]
                refine W.of_WE hT mixed M_f45 _ (by kernel_rfl) ?_
                simp
                have w1 : IntKind.i64.wrap 1 = 1 := rfl
                have w2 : IntKind.i64.wrap 2 = 2 := rfl
                have w3 : IntKind.i64.wrap 3 = 3 := rfl
                omega
            | 3, _, hJ =>
              refine W.of_WE hT mixed M_f45 _ (by kernel_rfl) ?_
              subst hR3
              simp
              unfold big3
              simp
              omega
        intro hbig
        rw [if_neg (by rw [hbig]; simp)] at hh
        cases hh
        have hA : AA.length ≤ 200 := by
          unfold big3 at hbig
          simp only [Bool.or_eq_false_iff, decide_eq_false_iff_not] at hbig
          omega
        refine W.wk (Wk.freeze 1 (.sl 1 22 R3) (by simp) (by simp [hR3])) ?_
        refine W.cut True [(6, .ptr 0 0), (12, .rd 1 R3), (14, .ptr 1 0)] [.box 25 [.nils, .nils, .nils], .box 25 [.rd 4 (sRows A4), .rd 4 (sRows A6), .nils]] 94 ?_ ?_
        · refine W.of_WE hT mixed M_f45 _ (by kernel_rfl) ?_
          simp [hR3]
        intro _
        refine W.wk (Wk.adoptB 1 2 2 57 (bt := 25) (cells := [.rd 4 (sRows A4), .rd 4 (sRows A6), .nils]) (by omega) (by simp) rfl) ?_
        refine W.cut True [(6, .ptr 0 0), (14, .ptr 1 0)] [.box 25 [.nils, .nils, .nils], .box 25 [.rd 4 (sRows A4), .rd 4 (sRows A6), .own 2], .sl 2 57 (aRows (AA.map narS))] 94 ?_ ?_
        · refine W.seqE hT mixed M_f45 (by kernel_rfl) ?_
          simp
          refine W.block (W.for (fun _ => True) (fun k => [(6, .ptr 0 0), (12, .rd 1 R3), (14, .ptr 1 0), (15, .int .i64 k)])
            (fun k => [.box 25 [.nils, .nils, .nils], .box 25 [.rd 4 (sRows A4), .rd 4 (sRows A6), .own 2], .sl 2 57 (aRows ((AA.take k).map narS))]) 94 AA.length trivial ?_ ?_)
          · simp [aRows]
          · intro k hk _
            refine W.of_WE hT mixed M_f45 _ (by kernel_rfl) ?_
            subst hR3
            by_cases hlt : k < AA.length
            · have hw1 : IntKind.i64.wrap ((k : Int) + 1) = k + 1 := wr_i64 (by omega) (by omega)
              have hsn : aRows ((AA.take (k + 1)).map narS) = aRows ((AA.take k).map narS) ++ [(narS AA[k]).row] := by
                rw [take_snoc' AA k hlt, List.map_append]; unfold aRows; rw [List.map_append]; rfl
              have hlk : (aRows ((AA.take k).map narS)).length ≤ 1000000 := by rw [aRows_len]; simp; omega
              generalize aRows ((AA.take k).map narS) = R at *
              simp [hlt, hw1, SP.row, sRows_len]
              simp [AS.row, narS] at hsn
              rw [hsn]
              exact ⟨by omega, by omega, rfl⟩
            · have : k = AA.length := by omega
              subst this
              simp [sRows_len]
        intro _
        refine W.wk (Wk.freeze 2 (.sl 2 57 (aRows (AA.map narS))) (by simp) (by simp)) ?_
        refine W.of_WE hT mixed M_f45 _ (by kernel_rfl) ?_
        simp [Try.f45]
      · cases hh
    · cases hh
  · cases hh

end Go.Proofs.Ytnhgdkcddjbpgaa.AL
