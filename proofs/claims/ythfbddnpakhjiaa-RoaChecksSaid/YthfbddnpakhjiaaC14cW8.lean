import Derived.Test.YthfbddnpakhjiaaC14cW7
import Derived.Shelf.SlSortCmp.NoneTotal
import Derived.Tactics2
/- What single functions compute: a part of the proof; no conditions. -/
set_option linter.unusedVariables false
set_option linter.unusedSimpArgs false
set_option maxRecDepth 100000
namespace Go.Proofs.Ythfbddnpakhjiaa.AL
open Go
attribute [local simp] qf cv qbin ibin sbin qun retPost rvOk ctV ctPost marksOk retV resAll resOf V.lt ltL V.ren renL V.exp V.exp1 cleanL V.clean closedL V.closed V.cells V.one V.tree
  loadV cellsAt isNC nilQ isSlD isIfD slNew ownRows ownCells V.isOwn slStore srcO qlook mlook mget mstr zval qnone qmake mput lmap isAggD placesOf fillV putCells lstore bound seqParts V.sh shL Blk.sh newV V.ok peqs peq srcRows appOk mmV mmR hidE V.fz fzL Blk.fz fzOk and_assoc
attribute [-simp] Int.not_le Int.not_lt Nat.not_le Nat.not_lt
open Go.Sort Go.Shelf Go.RowKit Go.Lib
theorem runs_cmp_Or_int : ∀ args r, SOr2 args = some r → Runs Try.prog 122 args r := by
  intro args r hh
  unfold SOr2 at hh
  split at hh
  · rename_i a b
    cases hh
    refine Runs.of_body Try.func122 (by decide) rfl (by simp [Try.f122]) ?_
    refine W.seqE (T0_ok _) mixed M0 (by kernel_rfl) ?_
    simp [Try.f122]
    refine W.seqE (T0_ok _) mixed M0 (by kernel_rfl) ?_
    simp [Try.f122]
    refine W.cut (a = 0 ∧ b = 0) [(3, .int .i64 0)] [] 18 ?_ ?_
    · refine W.seqE (T0_ok _) mixed M0 (by kernel_rfl) ?_
      simp [Try.f122]
      refine W.block (W.for (fun k => (0 < k → a = 0) ∧ (1 < k → b = 0)) (fun k => [(3, .int .i64 0), (6, .rd 1 [[.int .i64 a], [.int .i64 b]]), (7, .int .i64 2), (8, .int .i64 k)]) (fun k => []) 18 2 (by simp) ?_ ?_)
      · simp
      · intro k hk hJ
        refine W.of_WE (T0_ok _) mixed M0 _ (by kernel_rfl) ?_
        match k, hk, hJ with
        | 0, _, hJ =>
          by_cases ha : a = 0
          · simp [ha]; rfl
          · simp [ha]
        | 1, _, hJ =>
          by_cases hb : b = 0
          · simp [hb, hJ.1 (by omega)]; rfl
          · simp [hb, hJ.1 (by omega)]
        | 2, _, hJ => simp [hJ.1, hJ.2]
    · intro ⟨ha, hb⟩
      refine W.of_WE (T0_ok _) mixed M0 _ (by kernel_rfl) ?_
      simp [Try.f122, ha, hb]
  · cases hh

def SCf : List V → Option Res
  | [.agg [.int .u64 a, .int .u64 b, .int .u64 c, .int .u64 d], .agg [.int .u64 e, .int .u64 f, .int .u64 g, .int .u64 h]] => some ⟨.int .i64 (cfS ⟨a, b, c, d⟩ ⟨e, f, g, h⟩), []⟩
  | _ => none
def M_f121 : Md := fun i => if i = 1 then some #[0, 1, 0, 4, 15, 0, 32, 0, 128, 511, 1023, 2047, 4095] else some #[]
@[simp] theorem M_f121_eq {i : Nat} : M_f121 i = (if i = 1 then some #[0, 1, 0, 4, 15, 0, 32, 0, 128, 511, 1023, 2047, 4095] else some #[]) := rfl
theorem runs_union_1 : ∀ args r, SCf args = some r → Runs Try.prog 121 args r := by
  intro args r hh
  unfold SCf at hh
  split at hh
  · rename_i a b c d e f g h
    cases hh
    have hT : ((T0.add 123 SCompare).add 122 SOr2).ok Try.prog := Tab.add_ok (Tab.add_ok (T0_ok _) runs_number_Compare) runs_cmp_Or_int
    refine Runs.of_body Try.func121 (by decide) rfl (by simp [Try.f121]) ?_
    refine W.of_WE hT mixed M_f121 _ (by kernel_rfl) ?_
    simp [Try.f121, SCompare, SOr2, cfS]
  · cases hh
theorem isAggSp : ∀ w, (isAgg 79).run Try.prog w = .ok true w := Try.isAgg79
theorem sizeOfSp : ∀ w, (Go.sizeOf 79).run Try.prog w = .ok 4 w := Try.sizeOf79
theorem swoS : SWO (ltOf cfS) := by
  constructor
  · intro x; simp [ltOf, cfS_lt, ltS]
  · intro x y z h1 h2; simp only [ltOf, decide_eq_true_eq, cfS_lt, ltS] at *; omega
  · intro x y z h1 h2; simp only [ltOf, decide_eq_false_iff_not, cfS_lt, ltS] at *; omega
theorem sortS_eq (l : List SP) : (l.mergeSort fun x y => !(ltOf cfS) y x) = sortS l := rfl
set_option maxHeartbeats 2000000 in
theorem sort_calls (blk cap : Nat) (l : List SP) (w : World) (hc : CmpLays Try.prog 121 #[] encS 4 cfS blk 0 l.length w) (hH : HoldsK encS 4 w blk 0 l.toArray) (hblk : blk < w.heap.size) (hl0 : l.length ≤ 1000000) (hne : l ≠ []) :
    Calls Try.prog 120 #[.slice (some ⟨blk, 0, none⟩) l.length cap, .func (.func 121) #[] #[]] w fun e w' => e = .returned (.tuple #[]) ∧ ∃ n os, w' = sortWorldK encS 4 w blk 0 n (sortS l).toArray os := by
  have eg : ∀ args w, (callFunc 121 args).run Try.prog w = .ok (.enter 121 args) w := enters_of Try.func121 (by kernel_rfl) rfl
  obtain ⟨d, hd⟩ : ∃ d, d = l.toArray := ⟨_, rfl⟩
  have hds : d.size = l.length := by rw [hd]; simp
  rw [← hd] at hH
  rw [← hds] at hc ⊢
  have hdl : d.size ≤ 1000000 := by omega
  have hlim : Lib.bitLen d.size < 4611686018427387904 := Nat.lt_of_le_of_lt (Lib.bitLen_le d.size 62 (by omega) (by omega)) (by omega)
  have hp := AnyQ.pdqsortCmpFunc_all Try.sortSet 4 isAggSp sizeOfSp encS cfS 121 #[] swoS blk 0 cap d w eg hc ⟨fun _ => rfl, fun x v hv => by simp [encS] at hv; rcases hv with rfl | rfl | rfl | rfl <;> rfl, hH, hblk⟩ (d.size + 1) 0 d.size (Lib.bitLen d.size) d w (by omega) rfl (SWK.start hH) (Nat.zero_le _) (Nat.le_refl _) (by omega) hlim (Or.inl rfl)
  have hl : Calls Try.prog 131 #[.int .u64 (d.size : Int)] w fun e w' => e = .returned (.int .i64 (Lib.bitLen d.size : Nat)) ∧ w' = w := by
    have h := Any.bits_Len (SlLaysF0.n15.bits { Try.sortSet with }) (d.size : Int) w (by omega) (by omega)
    rwa [Int.toNat_natCast] at h
  change Calls Try.prog 136 _ _ _ at hp
  have wr : IntKind.u64.wrap (d.size : Int) = d.size := by simp [IntKind.wrap, IntKind.bits, IntKind.signed]; omega
  have hfin : pdq (ltOf cfS) d 0 d.size (Lib.bitLen d.size) true true = (sortS l).toArray := by
    have h := pdq_sorts (ltOf cfS) swoS d 0 d.size (Lib.bitLen d.size) true true (Nat.zero_le _) (Nat.le_refl _) (Or.inl rfl)
    have h2 := sorted_unique_holds swoS (fun x y h1 h2 => cfS_tot x y h1 h2) d _ h.1 h.2
    apply Array.toList_inj.1
    rw [h2, hd]
    rfl
  rw [hfin] at hp
  generalize sortS l = r at hp ⊢
  clear hH hc hfin hne hd hds hl0
  go_enter Try.func120, Try.ntmps120
  go_wp2_with (first | (go_at_call 131; refine hl.mono ?_; rintro e w' ⟨rfl, rfl⟩) | (go_at_call 136; refine hp.mono ?_; rintro e w' ⟨rfl, n, os, rfl⟩))
  go_end0
  exact ⟨rfl, n, os, rfl⟩
theorem sort_none (p : Option Addr) (cap : Nat) (w : World) : Calls Try.prog 120 #[.slice p 0 cap, .func (.func 121) #[] #[]] w fun e w' => e = .returned (.tuple #[]) ∧ w' = w := by
  have hp := fun lim W => AnyF.pdqsortCmpFunc_none Try.sortSet p cap lim (.func (.func 121) #[] #[]) W
  have hl : ∀ W, Calls Try.prog 131 #[.int .u64 0] W fun e w' => e = .returned (.int .i64 (Lib.bitLen 0 : Nat)) ∧ w' = W := fun W => by
    have h := Any.bits_Len (SlLaysF0.n15.bits { Try.sortSet with }) 0 W (by omega) (by omega)
    exact h
  change ∀ lim W, Calls Try.prog 136 _ _ _ at hp
  go_enter Try.func120, Try.ntmps120
  go_wp2_with (first | (go_at_call 131; refine (hl _).mono ?_; rintro e w' ⟨rfl, rfl⟩) | (go_at_call 136; refine (hp _ _).mono ?_; rintro e w' ⟨rfl, rfl⟩))
  go_end0
  exact ⟨rfl, rfl⟩
theorem sort_set {vs : List V} {s : St} {K X : V → St → Prop} (h : SortC 79 121 sortS vs s K X) : CallW Try.prog 120 s vs K X :=
  sort_ok Try.func120 (by decide) rfl Try.func121 (by decide) rfl (cf := cfS) (fun x y => runs_union_1 _ _ rfl)
    (fun blk cap l w hc hH hblk hl hne => sort_calls blk cap l w hc hH hblk hl hne) (fun p cap w => sort_none p cap w) sortS_len h

end Go.Proofs.Ythfbddnpakhjiaa.AL
namespace Go.Proofs.Ythfbddnpakhjiaa.AL
open Go
attribute [local simp] qf cv qbin ibin sbin qun retPost rvOk ctV ctPost marksOk retV resAll resOf V.lt ltL V.ren renL V.exp V.exp1 cleanL V.clean closedL V.closed V.cells V.one V.tree
  loadV cellsAt isNC nilQ isSlD isIfD slNew ownRows ownCells V.isOwn slStore srcO qlook mlook mget mstr zval qnone qmake mput lmap isAggD placesOf fillV putCells lstore bound seqParts V.sh shL Blk.sh newV V.ok peqs peq srcRows appOk mmV mmR hidE V.fz fzL Blk.fz fzOk and_assoc
attribute [-simp] Int.not_le Int.not_lt Nat.not_le Nat.not_lt
def SUni : List V → Option Res
  | [.rd 4 rows] => match spsOf rows with
    | some l => if (∀ s ∈ l, inSP s) ∧ l.length ≤ 1000 then some ⟨.own 0, [.sl 4 79 (sRows (unionS l))]⟩ else none
    | none => none
  | _ => none
theorem ustep_in {out : List SP} {s : SP} (h : ∀ t ∈ out, inSP t) (hs : inSP s) : ∀ t ∈ ustep out s, inSP t := by
  intro t ht
  unfold ustep at ht
  split at ht
  · split at ht
    · rename_i hc _
      unfold setTo at ht
      rcases List.mem_or_eq_of_mem_set ht with ht | rfl
      · exact h t ht
      · have hlt : out.length - 1 < out.length := by omega
        have := h _ (List.getElem_mem hlt)
        rw [List.getD_eq_getElem?_getD, List.getElem?_eq_getElem hlt, Option.getD_some]
        exact ⟨this.1, this.2.1, this.2.2.1, this.2.2.2.1, hs.2.2.2.2.1, hs.2.2.2.2.2.1, hs.2.2.2.2.2.2.1, hs.2.2.2.2.2.2.2⟩
    · exact h t ht
  · rcases List.mem_append.1 ht with ht | ht
    · exact h t ht
    · simp only [List.mem_singleton] at ht; subst ht; exact hs
theorem ufold_in : ∀ (l out : List SP), (∀ t ∈ out, inSP t) → (∀ s ∈ l, inSP s) → ∀ t ∈ l.foldl ustep out, inSP t
  | [], out, h, _ => h
  | s :: l, out, h, hl => ufold_in l (ustep out s) (ustep_in h (hl s (by simp))) (fun x hx => hl x (by simp [hx]))
def M_f92 : Md := fun i => if i = 8 then some #[0, 1, 3, 7, 15, 7, 7, 71, 231, 487, 999, 2047, 4095, 8191] else if i = 9 then some #[0, 0, 2, 7, 15, 31, 0, 64, 255, 511] else some #[]
@[simp] theorem M_f92_eq {i : Nat} : M_f92 i = (if i = 8 then some #[0, 1, 3, 7, 15, 7, 7, 71, 231, 487, 999, 2047, 4095, 8191] else if i = 9 then some #[0, 0, 2, 7, 15, 31, 0, 64, 255, 511] else some #[]) := rfl
theorem runs_union : ∀ args r, SUni args = some r → Runs Try.prog 92 args r := by
  intro args r hh
  unfold SUni at hh
  split at hh
  · rename_i rows
    split at hh
    · rename_i l hl
      split at hh
      · rename_i hin
        obtain ⟨hin, hlen⟩ := hin
        cases hh
        have h1 := parse_eq spOf_eq hl
        subst h1
        change Runs Try.prog 92 [.rd 4 (sRows l)] _
        have hcl := runs_Clone_set (rows := sRows l) (by simp; omega)
        have hT : ((((T0.add 119 (oneS [.rd 4 (sRows l)] ⟨.own 0, [.sl 4 79 (sRows l)]⟩)).addC 120 (SortC 79 121 sortS)).add 124 SAft).add 123 SCompare).ok Try.prog :=
          Tab.add_ok (Tab.add_ok (Tab.addC_ok (Tab.add_ok (T0_ok _) (oneS_ok hcl)) (fun _ _ _ _ h => sort_set h)) runs_after) runs_number_Compare
        have hsin : ∀ s ∈ sortS l, inSP s := fun s hs => hin s (sortS_mem.1 hs)
        have hslen := sortS_len l
        refine Runs.of_body Try.func92 (by decide) rfl (by simp [Try.f92]) ?_
        refine W.seqE hT mixed M_f92 (by kernel_rfl) ?_
        simp [Try.f92]
        refine W.cut True [(0, .own 0)] [.sl 4 79 (sRows l)] 56 ?_ ?_
        · refine W.of_WE hT mixed M_f92 _ (by kernel_rfl) ?_
          simp [Try.f92, oneS_self]
        intro _
        refine W.cut True [(0, .own 0)] [.sl 4 79 (sRows (sortS l))] 56 ?_ ?_
        · refine W.of_WE hT mixed M_f92 _ (by kernel_rfl) ?_
          simp [Try.f92]
          refine ⟨0, l, rfl, rfl, by omega, ?_⟩
          intro s' e1 e2
          simp [e1, e2]
        intro _
        unfold unionS
        generalize sortS l = L at *
        refine W.wk (Wk.freeze 0 (.sl 4 79 (sRows L)) (by simp) (by simp)) ?_
        refine W.seqE hT mixed M_f92 (by kernel_rfl) ?_
        simp [Try.f92]
        refine W.wk (Wk.adopt 3 4 79 (by omega) (by simp)) ?_
        refine W.cut True [(3, .own 0)] [.sl 4 79 (sRows (L.foldl ustep []))] 56 ?_ ?_
        · refine W.seqE hT mixed M_f92 (by kernel_rfl) ?_
          simp [Try.f92]
          refine W.block (W.for (fun _ => True) (fun k => [(3, .own 0), (11, .rd 4 (sRows L)), (12, .int .i64 L.length), (13, .int .i64 k)]) (fun k => [.sl 4 79 (sRows ((L.take k).foldl ustep []))]) 56 L.length trivial ?_ ?_)
          · simp [sRows]
          · intro k hk _
            refine W.seqE hT mixed M_f92 (by kernel_rfl) ?_
            by_cases hlt : k < L.length
            · have hw1 : IntKind.i64.wrap ((k : Int) + 1) = k + 1 := wr_i64 (by omega) (by omega)
              have hft := ufold_take hlt
              have hfl := ufold_tlen (l := L) k hk
              have hfin := ufold_in (L.take k) [] (by simp) (fun s hs => hsin s (List.mem_of_mem_take hs))
              rw [hft]
              generalize (L.take k).foldl ustep [] = O at *
              obtain ⟨S, hS⟩ : ∃ S, S = L[k] := ⟨_, rfl⟩
              have hSin := hsin L[k] (List.getElem_mem hlt)
              rw [← hS] at hSin ⊢
              simp [hlt]
              refine W.seqE hT mixed M_f92 (by kernel_rfl) ?_
              simp
              refine W.cut True [(3, .own 0), (11, .rd 4 (sRows L)), (12, .int .i64 L.length), (13, .int .i64 k)] [.sl 4 79 (sRows (ustep O S))] 56 ?_ ?_
              · refine W.block ?_
                refine W.cut True [(3, .own 0), (5, .ptr 1 0), (11, .rd 4 (sRows L)), (12, .int .i64 L.length), (13, .int .i64 k)] [.sl 4 79 (sRows O), .box 79 S.row] 56 ?_ ?_
                · refine W.of_WE hT mixed M_f92 _ (by kernel_rfl) ?_
                  simp [hlt, ← hS, SP.row]
                intro _
                obtain ⟨s1, s2, s3, s4, s5, s6, s7, s8⟩ := hSin
                have hsn := sRows_snoc O S
                simp only [SP.row] at hsn
                have hwl : IntKind.i64.wrap (O.length : Int) = O.length := wr_i64 (by omega) (by omega)
                refine W.of_WE hT mixed M_f92 _ (by kernel_rfl) ?_
                by_cases hO : 0 < O.length
                · have hO' : (0 : Int) < O.length := by omega
                  have hn1 : O.length - 1 < O.length := by omega
                  have hwn : IntKind.i64.wrap ((O.length : Int) - 1) = O.length - 1 := wr_i64 (by omega) (by omega)
                  have hnn : ((O.length : Int) - 1).toNat = O.length - 1 := by omega
                  have hb1 : (0 : Int) ≤ (O.length : Int) - 1 := by omega
                  have hls : lastS O = O[O.length - 1] := by
                    unfold lastS
                    rw [List.getD_eq_getElem?_getD, List.getElem?_eq_getElem hn1, Option.getD_some]
                  obtain ⟨t1, t2, t3, t4, t5, t6, t7, t8⟩ := hfin _ (List.getElem_mem hn1)
                  have hta : inA O[O.length - 1].h' O[O.length - 1].l' := ⟨t5, t6, t7, t8⟩
                  have hset := setTo_rows (out := O) (by intro h; rw [h] at hO; simp at hO) (by omega) (S.h', S.l')
                  rw [hwn, hnn] at hset
                  have hset4 := hset.2.2.2
                  unfold ustep
                  rw [hls]
                  have hrow : (sRows O)[O.length - 1]? = some O[O.length - 1].row := sRows_get hn1
                  generalize hlast : O[O.length - 1] = tt at *
                  cases ha : aftB S.h S.l tt.h' tt.l'
                  · rw [if_pos ⟨hO, rfl⟩]
                    by_cases hc : cmpA tt.h' tt.l' S.h' S.l' < 0
                    · rw [if_pos hc, ← hset4]
                      simp [SP.row, hO, hO', hn1, hwn, hnn, hb1, hlast, SAft, hta, ha, SCompare, hc, hrow]
                      omega
                    · rw [if_neg hc]
                      simp [SP.row, hO, hO', hn1, hwn, hnn, hb1, hlast, SAft, hta, ha, SCompare, hc, hrow]
                      omega
                  · rw [if_neg (by simp), ← hsn]
                    simp [SP.row, hO, hO', hn1, hwn, hnn, hb1, hlast, SAft, hta, ha, hrow]
                    omega
                · have hO' : ¬ (0 : Int) < O.length := by omega
                  unfold ustep
                  rw [if_neg (fun h => hO h.1), ← hsn]
                  simp [SP.row, hO, hO']
                  omega
              · intro _
                refine W.of_WE hT mixed M_f92 _ (by kernel_rfl) ?_
                simp [hw1, hlt]
            · have : k = L.length := by omega
              subst this
              simp
              refine W.of_WE hT mixed M_f92 _ (by kernel_rfl) ?_
              simp
        · intro _
          refine W.of_WE hT mixed M_f92 _ (by kernel_rfl) ?_
          simp [Try.f92]
      · cases hh
    · cases hh
  · cases hh

end Go.Proofs.Ythfbddnpakhjiaa.AL
namespace Go.Proofs.Ythfbddnpakhjiaa.AL
open Go
attribute [local simp] qf cv qbin ibin sbin qun retPost rvOk ctV ctPost marksOk retV resAll resOf V.lt ltL V.ren renL V.exp V.exp1 cleanL V.clean closedL V.closed V.cells V.one V.tree
  loadV cellsAt isNC nilQ isSlD isIfD slNew ownRows ownCells V.isOwn slStore srcO qlook mlook mget mstr zval qnone qmake mput lmap isAggD placesOf fillV putCells lstore bound seqParts V.sh shL Blk.sh newV V.ok peqs peq srcRows appOk mmV mmR hidE V.fz fzL Blk.fz fzOk and_assoc
attribute [-simp] Int.not_le Int.not_lt Nat.not_le Nat.not_lt
def narS (s : SP) : AS := ⟨IntKind.u32.wrap s.l, IntKind.u32.wrap s.l'⟩
def SNar1 : List V → Option Res
  | [.agg [.int .u64 h, .int .u64 l, .int .u64 h', .int .u64 l']] => some ⟨.agg (narS ⟨h, l, h', l'⟩).row, []⟩
  | _ => none
theorem runs_resource_narrow : ∀ args r, SNar1 args = some r → Runs Try.prog 126 args r := by
  intro args r hh
  unfold SNar1 at hh
  split at hh
  · cases hh
    refine Runs.of_body Try.func126 (by decide) rfl (by simp [Try.f126]) ?_
    refine W.of_WE (T0_ok _) mixed M0 _ (by kernel_rfl) ?_
    simp [Try.f126, AS.row, narS]
  · cases hh
theorem aRows_nar_snoc {l : List SP} {k : Nat} (hk : k < l.length) : aRows ((l.take k).map narS) ++ [(narS l[k]).row] = aRows ((l.take (k + 1)).map narS) := by
  rw [take_snoc' l k hk]; simp only [aRows, List.map_append, List.map_cons, List.map_nil]
def SConvN : List V → Option Res
  | [.rd 4 rows, .fn 126 [] []] => match spsOf rows with
    | some l => if l.length ≤ 1000000 then some ⟨.own 0, [.sl 2 181 (aRows (l.map narS))]⟩ else none
    | none => none
  | _ => none
theorem runs_convert_narrow : ∀ args r, SConvN args = some r → Runs Try.prog 125 args r := by
  intro args r hh
  unfold SConvN at hh
  split at hh
  · rename_i rows
    split at hh
    · rename_i l hl
      split at hh
      · rename_i hlen
        cases hh
        have h1 := parse_eq spOf_eq hl
        subst h1
        have hT : (T0.add 126 SNar1).ok Try.prog := Tab.add_ok (T0_ok _) runs_resource_narrow
        refine Runs.of_body Try.func125 (by decide) rfl (by simp [Try.f125]) ?_
        refine W.seqE hT mixed M0 (by kernel_rfl) ?_
        simp [Try.f125]
        refine W.seqE hT mixed M0 (by kernel_rfl) ?_
        simp [Try.f125]
        refine W.wk (Wk.adopt 5 2 181 (by omega) (by simp)) ?_
        refine W.cut True [(5, .own 0)] [.sl 2 181 (aRows (l.map narS))] 22 ?_ ?_
        · refine W.seqE hT mixed M0 (by kernel_rfl) ?_
          simp [Try.f125]
          refine W.block (W.for (fun k => True) (fun k => [(1, .fn 126 [] []), (5, .own 0), (8, .rd 4 (sRows l)), (9, .int .i64 l.length), (10, .int .i64 k)]) (fun k => [.sl 2 181 (aRows ((l.take k).map narS))]) 22 l.length trivial ?_ ?_)
          · simp [sRows, aRows]
          · intro k hk _
            refine W.of_WE hT mixed M0 _ (by kernel_rfl) ?_
            by_cases hlt : k < l.length
            · have hw1 : IntKind.i64.wrap ((k : Int) + 1) = k + 1 := wr_i64 (by omega) (by omega)
              have hsn := aRows_nar_snoc hlt
              have hlk : (aRows ((l.take k).map narS)).length ≤ 1000000 := by rw [aRows_len]; simp; omega
              generalize aRows ((l.take k).map narS) = R at *
              generalize aRows ((l.take (k + 1)).map narS) = R' at *
              simp only [AS.row, narS] at hsn
              simp [hlt, AS.row, SNar1, hw1, SP.row, narS]
              exact ⟨by omega, by omega, hsn⟩
            · have : k = l.length := by omega
              subst this
              simp
        · intro _
          refine W.of_WE hT mixed M0 _ (by kernel_rfl) ?_
          simp [Try.f125]
      · cases hh
    · cases hh
  · cases hh
def big3 (a b c : List SP) : Bool := decide (200 < a.length) || decide (200 < b.length) || decide (200 < c.length)
def SMade : List V → Option Res
  | [.agg [.rd 4 ra, .rd 4 rb, .rd 4 rc]] => match spsOf ra, spsOf rb, spsOf rc with
    | some a, some b, some c => if a.length ≤ 1000000 ∧ b.length ≤ 1000000 ∧ c.length ≤ 1000000 then
        (if big3 a b c = true then some ⟨.tup [.agg [.nils, .nils, .nils], .int .i64 4], []⟩
          else some ⟨.tup [.agg [.own 0, .own 1, .own 2], .int .i64 0], [.sl 4 79 (sRows a), .sl 4 79 (sRows b), .sl 2 181 (aRows (c.map narS))]⟩) else none
    | _, _, _ => none
  | _ => none
def pick3 {α : Type} (a b c : α) : Nat → α
  | 0 => a
  | 1 => b
  | _ => c
def M_f93 : Md := fun i => if i = 7 then some #[0, 1, 3, 0, 8, 31, 0, 64, 255, 511, 1023, 2047] else some #[]
@[simp] theorem M_f93_eq {i : Nat} : M_f93 i = (if i = 7 then some #[0, 1, 3, 0, 8, 31, 0, 64, 255, 511, 1023, 2047] else some #[]) := rfl
theorem runs_made : ∀ args r, SMade args = some r → Runs Try.prog 93 args r := by
  intro args r hh
  unfold SMade at hh
  split at hh
  · rename_i ra rb rc
    split at hh
    · rename_i a b c ha hb hc
      split at hh
      · rename_i hlen
        obtain ⟨la, lb, lc⟩ := hlen
        have h1 := parse_eq spOf_eq ha
        have h2 := parse_eq spOf_eq hb
        have h3 := parse_eq spOf_eq hc
        subst h1 h2 h3
        change Runs Try.prog 93 [.agg [.rd 4 (sRows a), .rd 4 (sRows b), .rd 4 (sRows c)]] r
        have ca := runs_Clone_set (rows := sRows a) (by simpa using la)
        have cb := runs_Clone_set (rows := sRows b) (by simpa using lb)
        have hcn : SConvN [.rd 4 (sRows c), .fn 126 [] []] = some ⟨.own 0, [.sl 2 181 (aRows (c.map narS))]⟩ := by
          simp only [SConvN, sRows_parse]; rw [if_pos lc]
        have hCl : ∀ args r, SClo [sRows a, sRows b] args = some r → Runs Try.prog 119 args r := fun args r h => SClo_ok (fun rows hr => by
          rcases List.mem_cons.1 hr with rfl | hr
          · exact ca
          · simp only [List.mem_singleton] at hr; subst hr; exact cb) h
        have e0 : SClo [sRows a, sRows b] [.rd 4 (sRows a)] = some ⟨.own 0, [.sl 4 79 (sRows a)]⟩ := SClo_at (by simp)
        have e1 : SClo [sRows a, sRows b] [.rd 4 (sRows b)] = some ⟨.own 0, [.sl 4 79 (sRows b)]⟩ := SClo_at (by simp)
        have hT : ((T0.add 119 (SClo [sRows a, sRows b])).add 125 SConvN).ok Try.prog := Tab.add_ok (Tab.add_ok (T0_ok _) hCl) runs_convert_narrow
        refine Runs.of_body Try.func93 (by decide) rfl (by simp [Try.f93]) ?_
        refine W.seqE hT mixed M_f93 (by kernel_rfl) ?_
        simp [Try.f93]
        by_cases hbig : big3 a b c = true
        · rw [if_pos hbig] at hh
          cases hh
          unfold big3 at hbig
          simp only [Bool.or_eq_true, decide_eq_true_eq] at hbig
          refine W.cut False [] [] 25 ?_ ?_
          · refine W.seqE hT mixed M_f93 (by kernel_rfl) ?_
            simp [Try.f93]
            refine W.block (W.for (fun k => (0 < k → ¬ 200 < a.length) ∧ (1 < k → ¬ 200 < b.length) ∧ k < 3) (fun k => [(1, .ptr 0 0), (2, .ptr 1 0), (6, .agg [.rd 4 (sRows a), .rd 4 (sRows b), .rd 4 (sRows c)]), (7, .int .i64 k)]) (fun k => [.box 157 [.rd 4 (sRows a), .rd 4 (sRows b), .rd 4 (sRows c)], .box 64 [.nils, .nils, .nils]]) 25 3 (by simp) ?_ ?_)
            · simp
            · intro k hk hJ
              refine W.of_WE hT mixed M_f93 _ (by kernel_rfl) ?_
              match k, hk, hJ with
              | 0, _, _ =>
                by_cases b1 : (200 : Int) < a.length
                · simp [b1]
                · have b1' : ¬ 200 < a.length := by omega
                  simp [b1]
                  exact ⟨by omega, rfl⟩
              | 1, _, hJ =>
                have g := hJ.1 (by omega)
                by_cases b1 : (200 : Int) < b.length
                · simp [b1]
                · have b1' : ¬ 200 < b.length := by omega
                  simp [b1]
                  exact ⟨by omega, by omega, rfl⟩
              | 2, _, hJ =>
                have g := hJ.1 (by omega)
                have g2 := hJ.2.1 (by omega)
                have b1 : (200 : Int) < c.length := by omega
                simp [b1]
              | 3, _, hJ => exact absurd hJ.2.2 (by omega)
          · intro h
            exact h.elim
        · rw [if_neg hbig] at hh
          cases hh
          unfold big3 at hbig
          simp only [Bool.or_eq_true, decide_eq_true_eq] at hbig
          refine W.cut True [(1, .ptr 0 0), (2, .ptr 1 0)] [.box 157 [.rd 4 (sRows a), .rd 4 (sRows b), .rd 4 (sRows c)], .box 64 [.nils, .nils, .nils]] 25 ?_ ?_
          · refine W.seqE hT mixed M_f93 (by kernel_rfl) ?_
            simp [Try.f93]
            refine W.block (W.for (fun k => True) (fun k => [(1, .ptr 0 0), (2, .ptr 1 0), (6, .agg [.rd 4 (sRows a), .rd 4 (sRows b), .rd 4 (sRows c)]), (7, .int .i64 k)]) (fun k => [.box 157 [.rd 4 (sRows a), .rd 4 (sRows b), .rd 4 (sRows c)], .box 64 [.nils, .nils, .nils]]) 25 3 trivial ?_ ?_)
            · simp
            · intro k hk _
              refine W.of_WE hT mixed M_f93 _ (by kernel_rfl) ?_
              have b1 : ¬ (200 : Int) < a.length := by omega
              have b2 : ¬ (200 : Int) < b.length := by omega
              have b3 : ¬ (200 : Int) < c.length := by omega
              match k, hk with
              | 0, _ => simp [b1]; rfl
              | 1, _ => simp [b2]; rfl
              | 2, _ => simp [b3]; rfl
              | 3, _ => simp
          · intro _
            refine W.of_WE hT mixed M_f93 _ (by kernel_rfl) ?_
            simp [Try.f93, e0, e1, hcn]
            exact ⟨18, 42, by decide, 66, by decide, by decide, by simp, by simp, by simp, rfl, rfl, rfl⟩
      · cases hh
    · cases hh
  · cases hh

end Go.Proofs.Ythfbddnpakhjiaa.AL
namespace Go.Proofs.Ythfbddnpakhjiaa.AL
open Go
attribute [local simp] qf cv qbin ibin sbin qun retPost rvOk ctV ctPost marksOk retV resAll resOf V.lt ltL V.ren renL V.exp V.exp1 cleanL V.clean closedL V.closed V.cells V.one V.tree
  loadV cellsAt isNC nilQ isSlD isIfD slNew ownRows ownCells V.isOwn slStore srcO qlook mlook mget mstr zval qnone qmake mput lmap isAggD placesOf fillV putCells lstore bound seqParts V.sh shL Blk.sh newV V.ok peqs peq srcRows appOk mmV mmR hidE V.fz fzL Blk.fz fzOk and_assoc
attribute [-simp] Int.not_le Int.not_lt Nat.not_le Nat.not_lt
/-- What comes out of three sets: too many, or the resources. -/
def outR (a b c : List SP) : RS := ⟨a, b, c.map narS⟩
def SMakeR : List V → Option Res
  | [.agg cs] => match rsOf cs with
    | some r => if inRS r ∧ lenRS 1000000 r then
        (if chkdR r ≠ 0 then some ⟨.tup [.agg [.nils, .nils, .nils], .int .i64 (chkdR r)], []⟩
          else if big3 (unionS r.l4) (unionS r.l6) (unionS (r.la.map wideS)) = true then some ⟨.tup [.agg [.nils, .nils, .nils], .int .i64 4], []⟩
          else some ⟨.tup [.agg [.own 0, .own 1, .own 2], .int .i64 0], [.sl 4 79 (sRows (unionS r.l4)), .sl 4 79 (sRows (unionS r.l6)), .sl 2 181 (aRows ((unionS (r.la.map wideS)).map narS))]⟩) else none
    | none => none
  | _ => none
theorem unionS_in {l : List SP} (h : ∀ s ∈ l, inSP s) : ∀ s ∈ unionS l, inSP s := ufold_in (sortS l) [] (by simp) (fun s hs => h s (sortS_mem.1 hs))
theorem unionS_len (l : List SP) : (unionS l).length ≤ l.length := by
  have := ufold_len (sortS l) []
  rw [sortS_len] at this
  simpa [unionS] using this
theorem uni_at {l : List SP} (h : ∀ s ∈ l, inSP s) (hl : l.length ≤ 1000) : SUni [.rd 4 (sRows l)] = some ⟨.own 0, [.sl 4 79 (sRows (unionS l))]⟩ := by
  simp only [SUni, sRows_parse]
  rw [if_pos ⟨h, hl⟩]
theorem made_at {a b c : List SP} (la : a.length ≤ 1000000) (lb : b.length ≤ 1000000) (lc : c.length ≤ 1000000) : SMade [.agg [.rd 4 (sRows a), .rd 4 (sRows b), .rd 4 (sRows c)]] =
    (if big3 a b c = true then some ⟨.tup [.agg [.nils, .nils, .nils], .int .i64 4], []⟩
          else some ⟨.tup [.agg [.own 0, .own 1, .own 2], .int .i64 0], [.sl 4 79 (sRows a), .sl 4 79 (sRows b), .sl 2 181 (aRows (c.map narS))]⟩) := by
  simp only [SMade, sRows_parse]
  rw [if_pos ⟨la, lb, lc⟩]
def M_f65 : Md := fun i => some #[]
@[simp] theorem M_f65_eq {i : Nat} : M_f65 i = (some #[]) := rfl
theorem runs_resource_Make : ∀ args r, SMakeR args = some r → Runs Try.prog 65 args r := by
  intro args r hh
  unfold SMakeR at hh
  split at hh
  · rename_i cs
    split at hh
    · rename_i q hq
      split at hh
      · rename_i hin
        obtain ⟨hin, hlen⟩ := hin
        have h1 := rsOf_eq hq
        subst h1
        have hcd := chkd_at hin hlen
        have hse := sets_at hin hlen
        simp only [RS.cells] at hcd hse ⊢
        have hT : ((((T0.add 90 SChkd).add 91 SSets).add 92 SUni).add 93 SMade).ok Try.prog := Tab.add_ok (Tab.add_ok (Tab.add_ok (Tab.add_ok (T0_ok _) runs_checked) runs_resource_sets) runs_union) runs_made
        refine Runs.of_body Try.func65 (by decide) rfl (by simp [Try.f65]) ?_
        refine W.seqE hT mixed M_f65 (by kernel_rfl) ?_
        simp [Try.f65]
        by_cases hz : chkdR q = 0
        · rw [if_neg (by omega)] at hh
          have hL := (chkdR_0.1 hz).1
          have l4 : q.l4.length ≤ 1000 := by have := hL 0 (by omega); simp only [RS.lst] at this; omega
          have l6 : q.l6.length ≤ 1000 := by have := hL 1 (by omega); simp only [RS.lst] at this; omega
          have la : (q.la.map wideS).length ≤ 1000 := by have := hL 2 (by omega); simp only [RS.lst] at this; omega
          have wa : ∀ s ∈ q.la.map wideS, inSP s := fun s hs => by obtain ⟨t, ht, rfl⟩ := List.mem_map.1 hs; exact inSP_wide (hin.2.2 t ht)
          have u4 := uni_at hin.1 l4
          have u6 := uni_at hin.2.1 l6
          have ua := uni_at wa la
          have m := made_at (a := unionS q.l4) (b := unionS q.l6) (c := unionS (q.la.map wideS)) (by have := unionS_len q.l4; omega) (by have := unionS_len q.l6; omega) (by have := unionS_len (q.la.map wideS); omega)
          rw [hz] at hcd
          refine W.cut True [(1, .ptr 0 0), (2, .ptr 1 0)] [.box 64 [.rd 4 (sRows q.l4), .rd 4 (sRows q.l6), .rd 2 (aRows q.la)], .box 64 [.nils, .nils, .nils]] 29 ?_ ?_
          · refine W.of_WE hT mixed M_f65 _ (by kernel_rfl) ?_
            simp [Try.f65, hcd]
          intro _
          refine W.seqE hT mixed M_f65 (by kernel_rfl) ?_
          simp [Try.f65, hse]
          generalize q.la.map wideS = lw at *
          refine W.cut True [(2, .ptr 0 0), (5, .ptr 1 0)] [.box 64 [.nils, .nils, .nils], .box 157 [.rd 4 (sRows (unionS q.l4)), .rd 4 (sRows (unionS q.l6)), .rd 4 (sRows (unionS lw))]] 29 ?_ ?_
          · refine W.seqE hT mixed M_f65 (by kernel_rfl) ?_
            simp [Try.f65]
            refine W.block (W.for (fun _ => True) (fun k => [(2, .ptr 0 0), (5, .ptr 1 0), (15, .int .i64 k)])
              (fun k => [.box 64 [.nils, .nils, .nils], .box 157 [.rd 4 (sRows (if 0 < k then unionS q.l4 else q.l4)), .rd 4 (sRows (if 1 < k then unionS q.l6 else q.l6)), .rd 4 (sRows (if 2 < k then unionS lw else lw))]]) 29 3 trivial ?_ ?_)
            · simp
            · intro k hk _
              match k, hk with
              | 0, _ =>
                refine W.seqE hT mixed M_f65 (by kernel_rfl) ?_
                simp
                refine W.seqE hT mixed M_f65 (by kernel_rfl) ?_
                simp
                refine W.cut True [(2, .ptr 0 0), (5, .ptr 1 0), (15, .int .i64 0)] [.box 64 [.nils, .nils, .nils], .box 157 [.own 2, .rd 4 (sRows q.l6), .rd 4 (sRows lw)], .sl 4 79 (sRows (unionS q.l4))] 29 ?_ ?_
                · refine W.of_WE hT mixed M_f65 _ (by kernel_rfl) ?_
                  simp [u4]
                intro _
                refine W.wk (Wk.freeze 2 (.sl 4 79 (sRows (unionS q.l4))) (by simp) (by simp)) ?_
                refine W.of_WE hT mixed M_f65 _ (by kernel_rfl) ?_
                simp
                rfl
              | 1, _ =>
                refine W.seqE hT mixed M_f65 (by kernel_rfl) ?_
                simp
                refine W.seqE hT mixed M_f65 (by kernel_rfl) ?_
                simp
                refine W.cut True [(2, .ptr 0 0), (5, .ptr 1 0), (15, .int .i64 1)] [.box 64 [.nils, .nils, .nils], .box 157 [.rd 4 (sRows (unionS q.l4)), .own 2, .rd 4 (sRows lw)], .sl 4 79 (sRows (unionS q.l6))] 29 ?_ ?_
                · refine W.of_WE hT mixed M_f65 _ (by kernel_rfl) ?_
                  simp [u6]
                intro _
                refine W.wk (Wk.freeze 2 (.sl 4 79 (sRows (unionS q.l6))) (by simp) (by simp)) ?_
                refine W.of_WE hT mixed M_f65 _ (by kernel_rfl) ?_
                simp
                rfl
              | 2, _ =>
                refine W.seqE hT mixed M_f65 (by kernel_rfl) ?_
                simp
                refine W.seqE hT mixed M_f65 (by kernel_rfl) ?_
                simp
                refine W.cut True [(2, .ptr 0 0), (5, .ptr 1 0), (15, .int .i64 2)] [.box 64 [.nils, .nils, .nils], .box 157 [.rd 4 (sRows (unionS q.l4)), .rd 4 (sRows (unionS q.l6)), .own 2], .sl 4 79 (sRows (unionS lw))] 29 ?_ ?_
                · refine W.of_WE hT mixed M_f65 _ (by kernel_rfl) ?_
                  simp [ua]
                intro _
                refine W.wk (Wk.freeze 2 (.sl 4 79 (sRows (unionS lw))) (by simp) (by simp)) ?_
                refine W.of_WE hT mixed M_f65 _ (by kernel_rfl) ?_
                simp
                rfl
              | 3, _ =>
                refine W.of_WE hT mixed M_f65 _ (by kernel_rfl) ?_
                simp
          intro _
          refine W.of_WE hT mixed M_f65 _ (by kernel_rfl) ?_
          cases hb : big3 (unionS q.l4) (unionS q.l6) (unionS lw)
          · rw [hb] at hh m
            cases hh
            simp only [Bool.false_eq_true, if_false] at m
            simp [Try.f65, m]
            exact ⟨10, 11, by decide, 12, by decide, by decide, by simp, by simp, by simp, rfl, rfl, rfl⟩
          · rw [hb] at hh m
            cases hh
            simp only [if_true] at m
            simp [Try.f65, m]
        · rw [if_pos hz] at hh
          cases hh
          refine W.of_WE hT mixed M_f65 _ (by kernel_rfl) ?_
          simp [Try.f65, hcd, hz]
      · cases hh
    · cases hh
  · cases hh

end Go.Proofs.Ythfbddnpakhjiaa.AL
namespace Go.Proofs.Ythfbddnpakhjiaa.AL
open Go
attribute [local simp] qf cv qbin ibin sbin qun retPost rvOk ctV ctPost marksOk retV resAll resOf V.lt ltL V.ren renL V.exp V.exp1 cleanL V.clean closedL V.closed V.cells V.one V.tree
  loadV cellsAt isNC nilQ isSlD isIfD slNew ownRows ownCells V.isOwn slStore srcO qlook mlook mget mstr zval qnone qmake mput lmap isAggD placesOf fillV putCells lstore bound seqParts V.sh shL Blk.sh newV V.ok peqs peq srcRows appOk mmV mmR hidE V.fz fzL Blk.fz fzOk and_assoc
attribute [-simp] Int.not_le Int.not_lt Nat.not_le Nat.not_lt
def SKey : List V → Option Res
  | [.agg [.int .u8 f, .int .u64 h, .int .u64 l, .int .i64 n, .int .i64 m]] => some ⟨.agg [.int .u64 (IntKind.u64.wrap f), .int .u64 h, .int .u64 l, .int .u64 (IntKind.u64.wrap n), .int .u64 (IntKind.u64.wrap m)], []⟩
  | _ => none
theorem runs_roa_key : ∀ args r, SKey args = some r → Runs Try.prog 40 args r := by
  intro args r hh
  unfold SKey at hh
  split at hh
  · cases hh
    refine Runs.of_body Try.func40 (by decide) rfl (by simp [Try.f40]) ?_
    refine W.of_WE (T0_ok _) mixed M0 _ (by kernel_rfl) ?_
    simp +contextual [Try.f40]
  · cases hh
def SCmpL : List V → Option Res
  | [.rd 1 r1, .rd 1 r2] => match u64sOf r1, u64sOf r2 with
    | some xs, some ys => if xs.length ≤ 9223372036854775806 ∧ ys.length ≤ 9223372036854775806 then some ⟨.int .i64 (cmpL xs ys), []⟩ else none
    | _, _ => none
  | _ => none
theorem cmpL_drop {xs ys : List Int} {k : Nat} (hx : k < xs.length) (hy : k < ys.length) : cmpL (xs.drop k) (ys.drop k) = if xs[k] < ys[k] then -1 else if ys[k] < xs[k] then 1 else cmpL (xs.drop (k + 1)) (ys.drop (k + 1)) := by
  rw [List.drop_eq_getElem_cons hx, List.drop_eq_getElem_cons hy]; rfl
theorem runs_slices_Compare_u64 : ∀ args r, SCmpL args = some r → Runs Try.prog 88 args r := by
  intro args r hh
  unfold SCmpL at hh
  split at hh
  · rename_i r1 r2
    split at hh
    · rename_i xs ys hxs hys
      split at hh
      · rename_i hin
        cases hh
        have h1 := u64sOf_eq hxs
        have h2 := u64sOf_eq hys
        subst h1 h2
        have hT : (T0.add 114 SCmp).ok Try.prog := Tab.add_ok (T0_ok _) runs_cmp_Compare_uint64_
        refine Runs.of_body Try.func88 (by decide) rfl (by simp [Try.f88]) ?_
        refine W.seqE hT mixed M0 (by kernel_rfl) ?_
        simp [Try.f88]
        refine W.cut (xs.length ≤ ys.length ∧ cmpL xs ys = cmpL [] (ys.drop xs.length)) [(0, .rd 1 (xs.map fun x => [.int .u64 x])), (1, .rd 1 (ys.map fun x => [.int .u64 x]))] [] 36 ?_ ?_
        · refine W.seqE hT mixed M0 (by kernel_rfl) ?_
          simp [Try.f88]
          refine W.block (W.for (fun k => k ≤ ys.length ∧ cmpL xs ys = cmpL (xs.drop k) (ys.drop k)) (fun k => [(0, .rd 1 (xs.map fun x => [.int .u64 x])), (1, .rd 1 (ys.map fun x => [.int .u64 x])), (9, .rd 1 (xs.map fun x => [.int .u64 x])), (10, .int .i64 xs.length), (11, .int .i64 k)])
            (fun k => []) 36 xs.length ⟨by omega, by simp⟩ ?_ ?_)
          · simp
          · intro k hk hJ
            refine W.of_WE hT mixed M0 _ (by kernel_rfl) ?_
            by_cases hlt : k < xs.length
            · by_cases hly : k < ys.length
              · have hd := cmpL_drop hlt hly
                simp [hlt, hly, SCmp]
                refine ⟨fun h => by omega, fun _ => ⟨fun h => ?_, fun h => ?_⟩⟩
                · rw [hJ.2, hd]
                  unfold cmpI at h ⊢
                  by_cases g1 : xs[k] < ys[k]
                  · simp [g1]
                  · by_cases g2 : ys[k] < xs[k]
                    · simp [g1, g2]
                    · simp [g1, g2] at h
                · refine ⟨by omega, ?_, wr_i64 (by omega) (by omega)⟩
                  rw [hJ.2, hd]
                  unfold cmpI at h
                  split at h
                  · omega
                  · split at h
                    · omega
                    · rw [if_neg (by assumption), if_neg (by assumption)]
              · simp [hlt, hly]
                refine ⟨fun h => ?_, by omega⟩
                rw [hJ.2, List.drop_eq_getElem_cons hlt, show List.drop k ys = [] from List.drop_eq_nil_of_le (by omega)]
                rfl
            · simp [hlt]
              have hkx : k = xs.length := by omega
              subst hkx
              refine ⟨hJ.1, ?_⟩
              rw [hJ.2, List.drop_length]
        · intro ⟨hC1, hC2⟩
          refine W.of_WE hT mixed M0 _ (by kernel_rfl) ?_
          simp +contextual [Try.f88]
          rw [hC2]
          refine ⟨fun h => ?_, fun h => ?_⟩
          · rw [List.drop_eq_getElem_cons h]; rfl
          · rw [List.drop_eq_nil_of_le (by omega)]; rfl
      · cases hh
    · cases hh
  · cases hh
def SOrd : List V → Option Res
  | [.agg r1, .agg r2] => match apOf r1, apOf r2 with
    | some a, some b => some ⟨.int .i64 (ordA a b), []⟩
    | _, _ => none
  | _ => none
def M_f54 : Md := fun i => if i = 1 then some #[0, 1, 0, 7, 0, 0, 63, 127] else if i = 4 then some #[0, 0, 3, 7] else some #[]
@[simp] theorem M_f54_eq {i : Nat} : M_f54 i = (if i = 1 then some #[0, 1, 0, 7, 0, 0, 63, 127] else if i = 4 then some #[0, 0, 3, 7] else some #[]) := rfl
theorem runs_roa_order : ∀ args r, SOrd args = some r → Runs Try.prog 54 args r := by
  intro args r hh
  unfold SOrd at hh
  split at hh
  · rename_i r1 r2
    split at hh
    · rename_i a b ha hb
      cases hh
      have h1 := apOf_eq ha
      have h2 := apOf_eq hb
      subst h1 h2
      have hT : ((T0.add 40 SKey).add 88 SCmpL).ok Try.prog := Tab.add_ok (Tab.add_ok (T0_ok _) runs_roa_key) runs_slices_Compare_u64
      refine Runs.of_body Try.func54 (by decide) rfl (by simp [Try.f54]) ?_
      refine W.seqE hT mixed M_f54 (by kernel_rfl) ?_
      simp [Try.f54, AP.row]
      refine W.seqE hT mixed M_f54 (by kernel_rfl) ?_
      simp [Try.f54, SKey]
      refine W.seqE hT mixed M_f54 (by kernel_rfl) ?_
      simp [Try.f54]
      refine ⟨fun g1 g2 g3 g4 g5 => ?_, fun _ => ?_⟩
      · unfold ordA AP.ukey
        rw [g1, g2, g3, g4, g5, cmpL_self]
      · refine W.wk (Wk.freeze 56 (.box 88 (a.ukey.map (.int .u64 ·))) (by simp [AP.ukey]) (by simp [AP.ukey])) ?_
        refine W.wk (Wk.freeze 64 (.box 88 (b.ukey.map (.int .u64 ·))) (by simp [AP.ukey]) (by simp [AP.ukey])) ?_
        refine W.of_WE hT mixed M_f54 _ (by kernel_rfl) ?_
        have hc : SCmpL [.rd 1 (a.ukey.map fun x => [.int .u64 x]), .rd 1 (b.ukey.map fun x => [.int .u64 x])] = some ⟨.int .i64 (ordA a b), []⟩ := by
          simp only [SCmpL, u64sOf_map]
          rw [if_pos (by simp [AP.ukey])]
          rfl
        simp [AP.ukey] at hc
        simp [Try.f54, AP.ukey, chunkV, hc, show 5 ≤ maxLen by decide]
    · cases hh
  · cases hh

end Go.Proofs.Ythfbddnpakhjiaa.AL
namespace Go.Proofs.Ythfbddnpakhjiaa.AL
open Go
attribute [local simp] qf cv qbin ibin sbin qun retPost rvOk ctV ctPost marksOk retV resAll resOf V.lt ltL V.ren renL V.exp V.exp1 cleanL V.clean closedL V.closed V.cells V.one V.tree
  loadV cellsAt isNC nilQ isSlD isIfD slNew ownRows ownCells V.isOwn slStore srcO qlook mlook mget mstr zval qnone qmake mput lmap isAggD placesOf fillV putCells lstore bound seqParts V.sh shL Blk.sh newV V.ok peqs peq srcRows appOk mmV mmR hidE V.fz fzL Blk.fz fzOk and_assoc
attribute [-simp] Int.not_le Int.not_lt Nat.not_le Nat.not_lt
def SBef : List V → Option Res
  | [.agg r1, .agg r2] => match apOf r1, apOf r2 with
    | some a, some b => some ⟨.bool (befA a b), []⟩
    | _, _ => none
  | _ => none
theorem runs_ref14_before : ∀ args r, SBef args = some r → Runs Try.prog 69 args r := by
  intro args r hh
  unfold SBef at hh
  split at hh
  · rename_i r1 r2
    split at hh
    · rename_i a b ha hb
      cases hh
      have h1 := apOf_eq ha
      have h2 := apOf_eq hb
      subst h1 h2
      have hT : (T0.add 97 SCompare).ok Try.prog := Tab.add_ok (T0_ok _) runs_ref01_Compare
      refine Runs.of_body Try.func69 (by decide) rfl (by simp [Try.f69]) ?_
      refine W.of_WE hT mixed M0 _ (by kernel_rfl) ?_
      simp +contextual [Try.f69, AP.row, SCompare]
      simp only [befA, AP.key, cmpL, cmpA]
      grind
    · cases hh
  · cases hh
/-- What an authorisation answers to a check. -/
def okAP (a : AP) : Bool := decide (chkP a.f a.h a.l a.n = 0) && (decide (a.n ≤ a.m) && decide (a.m ≤ widN a.f))
def AP0 : AP := ⟨0, 0, 0, 0, 0⟩
def okJ (l : List AP) (i : Nat) : Bool := okAP (l.getD i AP0) && (decide (i = 0) || befA (l.getD (i - 1) AP0) (l.getD i AP0))
def sndR (l : List AP) (k : Nat) : Bool := (List.range k).all (okJ l)
theorem sndR_succ (l : List AP) (k : Nat) : sndR l (k + 1) = (sndR l k && okJ l k) := by simp [sndR, List.range_succ]
theorem okAP_pos {a : AP} (h : okAP a = true) : 0 ≤ a.n ∧ 0 ≤ a.m ∧ (a.f = 4 ∨ a.f = 6) := by
  simp only [okAP, Bool.and_eq_true, decide_eq_true_eq] at h
  obtain ⟨j, hj, _, hc, _⟩ := chk_zero h.1
  exact ⟨by omega, by omega, cAddr_46 hc⟩
theorem okAP_w (a : AP) : okAP a = (decide (chkP a.f a.h a.l a.n = 0) && (decide (a.n ≤ a.m) && decide (a.m ≤ if a.f = 6 then 128 else 32))) := by
  unfold okAP
  by_cases h : chkP a.f a.h a.l a.n = 0
  · obtain ⟨j, hj, _, hc, _⟩ := chk_zero h
    rcases cAddr_46 hc with h4 | h6
    · rw [h4]; rfl
    · rw [h6]; rfl
  · simp [h]
def chkRoa (l : List AP) : Int := if 100 < l.length then 4 else if l.length = 0 then 8 else if sndR l l.length = true then 0 else 8
def SRoa : List V → Option Res
  | [.agg [.int .u32 w, .rd 5 rows]] => match apsOf rows with
    | some l => if (∀ a ∈ l, inAP a) ∧ l.length ≤ 1000 then some ⟨.int .i64 (chkRoa l), []⟩ else none
    | none => none
  | _ => none
theorem ap_get {l : List AP} {k : Nat} (h : k < l.length) : l.getD k AP0 = l[k] := by simp [h]
theorem okJ_ord {l : List AP} (hin : ∀ a ∈ l, inAP a) {k : Nat} (hk : k + 1 < l.length) (hs : sndR l (k + 1) = true) (ho : okAP l[k + 1] = true) :
    decide (ordA l[k] l[k + 1] < 0) = befA l[k] l[k + 1] := by
  rw [sndR_succ] at hs
  simp only [Bool.and_eq_true, okJ, ap_get (show k < l.length by omega)] at hs
  have h1 := okAP_pos hs.2.1
  have h2 := okAP_pos ho
  exact ord_bef (hin _ (List.getElem_mem _)) (hin _ (List.getElem_mem _)) h1.1 h1.2.1 h2.1 h2.2.1
def M_f20 : Md := fun i => if i = 11 then some #[0, 1, 3, 7, 15, 31, 63, 31, 159, 511, 1023, 31, 4095, 8191, 16383, 32767, 65535] else some #[]
@[simp] theorem M_f20_eq {i : Nat} : M_f20 i = (if i = 11 then some #[0, 1, 3, 7, 15, 31, 63, 31, 159, 511, 1023, 31, 4095, 8191, 16383, 32767, 65535] else some #[]) := rfl
theorem runs_roa_Check : ∀ args r, SRoa args = some r → Runs Try.prog 20 args r := by
  intro args r hh
  unfold SRoa at hh
  split at hh
  · rename_i w rows
    split at hh
    · rename_i l hl
      split at hh
      · rename_i hin
        obtain ⟨hin, hlen⟩ := hin
        cases hh
        have h1 := apsOf_eq hl
        subst h1
        have hT : ((T0.add 22 SCheck).add 54 SOrd).ok Try.prog := Tab.add_ok (Tab.add_ok (T0_ok _) runs_number_Check) runs_roa_order
        refine Runs.of_body Try.func20 (by decide) rfl (by simp [Try.f20]) ?_
        refine W.seqE hT mixed M_f20 (by kernel_rfl) ?_
        simp [Try.f20]
        refine W.seqE hT mixed M_f20 (by kernel_rfl) ?_
        by_cases h100 : 100 < l.length
        · simp [Try.f20, h100, show 100 < (l.length : Int) by omega, chkRoa]
        · simp [Try.f20, h100, show ¬ 100 < (l.length : Int) by omega]
          refine W.seqE hT mixed M_f20 (by kernel_rfl) ?_
          simp [Try.f20]
          refine W.cut True [(3, .bool (decide (0 < l.length) && sndR l l.length))] [] 67 ?_ ?_
          · refine W.seqE hT mixed M_f20 (by kernel_rfl) ?_
            simp [Try.f20]
            refine W.block (W.for (fun k => True) (fun k => [(1, .ptr 0 0), (3, .bool (decide (0 < l.length) && sndR l k)), (16, .rd 5 (l.map AP.row)), (17, .int .i64 l.length), (18, .int .i64 k)])
              (fun k => [.box 25 [.int .u32 w, .rd 5 (l.map AP.row)]]) 67 l.length trivial ?_ ?_)
            · simp [sndR]
            · intro k hk hJ
              by_cases hlt : k < l.length
              · have hg := hin l[k] (List.getElem_mem hlt)
                have hA : inA l[k].h l[k].l := ⟨hg.2.2.1, hg.2.2.2.1, hg.2.2.2.2.1, hg.2.2.2.2.2.1⟩
                have hw1 : IntKind.i64.wrap ((k : Int) + 1) = k + 1 := wr_i64 (by omega) (by omega)
                have hok := okAP_w l[k]
                have hs := sndR_succ l k
                rw [okJ, ap_get hlt] at hs
                generalize hb : (decide (0 < l.length) && sndR l k) = b
                refine W.seqE hT mixed M_f20 (by kernel_rfl) ?_
                simp [hlt]
                refine W.seqE hT mixed M_f20 (by kernel_rfl) ?_
                simp [hlt]
                refine W.cut True [(1, .ptr 0 0), (3, .bool (decide (0 < l.length) && sndR l (k + 1))), (16, .rd 5 (l.map AP.row)), (17, .int .i64 l.length), (18, .int .i64 k)] [.box 25 [.int .u32 w, .rd 5 (l.map AP.row)]] 67 ?_ ?_
                · refine W.block ?_
                  refine W.seqE hT mixed M_f20 (by kernel_rfl) ?_
                  simp [hlt, AP.row]
                  refine W.seqE hT mixed M_f20 (by kernel_rfl) ?_
                  simp
                  refine W.cut True [(1, .ptr 0 0), (3, .bool b), (4, .int .i64 k), (5, .ptr 1 0), (6, .int .i64 (if l[k].f = 6 then 128 else 32)), (16, .rd 5 (l.map AP.row)), (17, .int .i64 l.length), (18, .int .i64 k)]
                    [.box 25 [.int .u32 w, .rd 5 (l.map AP.row)], .box 76 l[k].row] 67 ?_ ?_
                  · refine W.of_WE hT mixed M_f20 _ (by kernel_rfl) ?_
                    by_cases h6 : l[k].f = 6
                    · simp [h6, AP.row]
                    · simp [h6, AP.row]
                  · intro _
                    refine W.cut True [(1, .ptr 0 0), (3, .bool (b && okAP l[k])), (4, .int .i64 k), (5, .ptr 1 0), (6, .int .i64 (if l[k].f = 6 then 128 else 32)), (16, .rd 5 (l.map AP.row)), (17, .int .i64 l.length), (18, .int .i64 k)]
                      [.box 25 [.int .u32 w, .rd 5 (l.map AP.row)], .box 76 l[k].row] 67 ?_ ?_
                    · refine W.of_WE hT mixed M_f20 _ (by kernel_rfl) ?_
                      rw [hok]
                      cases b with
                      | false => simp [AP.row]
                      | true =>
                        by_cases c1 : chkP l[k].f l[k].h l[k].l l[k].n = 0
                        · by_cases c2 : l[k].n ≤ l[k].m
                          · simp [AP.row, SCheck, hA, c1, c2]
                          · simp [AP.row, SCheck, hA, c1, c2]
                        · simp [AP.row, SCheck, hA, c1]
                    · intro _
                      refine W.of_WE hT mixed M_f20 _ (by kernel_rfl) ?_
                      cases ho : (b && okAP l[k]) with
                      | false =>
                        simp [AP.row]
                        intro h0
                        simp [h0] at hb
                        rw [hs, hb, ← Bool.and_assoc, ho]
                        rfl
                      | true =>
                        simp at ho
                        cases k with
                        | zero =>
                          simp [AP.row]
                          refine ⟨hlt, ?_⟩
                          rw [hs, ho.2]
                          rfl
                        | succ j =>
                          have hw2 : IntKind.i64.wrap (j : Int) = j := wr_i64 (by omega) (by omega)
                          simp [AP.row, hw2, show j < l.length by omega, SOrd, apOf, show ¬ ((j : Int) + 1 = 0) by omega]
                          have hsj : sndR l (j + 1) = true := by
                            rw [ho.1] at hb; simp at hb; exact hb.2
                          have hoo := okJ_ord hin hlt hsj ho.2
                          rw [hs, hsj, ho.2, ap_get (show j + 1 - 1 < l.length by omega)]
                          simp
                          rw [decide_eq_true (show 0 < l.length by omega), Bool.true_and]
                          exact hoo
                · intro _
                  refine W.of_WE hT mixed M_f20 _ (by kernel_rfl) ?_
                  simp [hw1, hlt]
              · have : k = l.length := by omega
                subst this
                refine W.of_WE hT mixed M_f20 _ (by kernel_rfl) ?_
                simp
          · intro _
            refine W.of_WE hT mixed M_f20 _ (by kernel_rfl) ?_
            simp +contextual [Try.f20]
            unfold chkRoa
            rw [if_neg h100]
            refine ⟨fun h => ?_, fun h1 h2 => ?_⟩
            · rcases h with h | h
              · rw [if_pos (by omega)]
              · simp [h]
            · rw [if_neg (by omega), if_pos h2]
      · cases hh
    · cases hh
  · cases hh
def M_f28 : Md := fun i => if i = 9 then some #[0, 1, 3, 7, 15, 31, 63, 31, 159, 415, 1023, 2047, 4095, 8191, 16383, 8191, 40959, 106495, 237567, 524287, 1048575] else if i = 11 then some #[0, 1, 3, 7, 15, 7, 39, 127, 255, 7, 1023, 2047, 4095] else some #[]
@[simp] theorem M_f28_eq {i : Nat} : M_f28 i = (if i = 9 then some #[0, 1, 3, 7, 15, 31, 63, 31, 159, 415, 1023, 2047, 4095, 8191, 16383, 8191, 40959, 106495, 237567, 524287, 1048575] else if i = 11 then some #[0, 1, 3, 7, 15, 7, 39, 127, 255, 7, 1023, 2047, 4095] else some #[]) := rfl
theorem runs_ref14_Check : ∀ args r, SRoa args = some r → Runs Try.prog 28 args r := by
  intro args r hh
  unfold SRoa at hh
  split at hh
  · rename_i w rows
    split at hh
    · rename_i l hl
      split at hh
      · rename_i hin
        obtain ⟨hin, hlen⟩ := hin
        cases hh
        have h1 := apsOf_eq hl
        subst h1
        have hT : (((T0.add 37 SCheck).add 68 SWid).add 69 SBef).ok Try.prog := Tab.add_ok (Tab.add_ok (Tab.add_ok (T0_ok _) runs_ref01_Check) runs_ref01_Width) runs_ref14_before
        refine Runs.of_body Try.func28 (by decide) rfl (by simp [Try.f28]) ?_
        refine W.seqE hT mixed M_f28 (by kernel_rfl) ?_
        simp [Try.f28]
        refine W.seqE hT mixed M_f28 (by kernel_rfl) ?_
        by_cases h100 : 100 < l.length
        · simp [Try.f28, h100, show 100 < (l.length : Int) by omega, chkRoa]
        · simp [Try.f28, h100, show ¬ 100 < (l.length : Int) by omega]
          refine W.seqE hT mixed M_f28 (by kernel_rfl) ?_
          by_cases h0 : l.length = 0
          · simp [Try.f28, h0, chkRoa]
          · simp [Try.f28, h0]
            refine W.cut (sndR l l.length = true) [] [] 59 ?_ ?_
            · refine W.seqE hT mixed M_f28 (by kernel_rfl) ?_
              simp [Try.f28]
              refine W.block (W.for (fun k => sndR l k = true) (fun k => [(1, .ptr 0 0), (3, .int .i64 k)])
                (fun k => [.box 25 [.int .u32 w, .rd 5 (l.map AP.row)]]) 59 l.length (by simp [sndR]) ?_ ?_)
              · simp
              · intro k hk hJ
                by_cases hlt : k < l.length
                · have hg := hin l[k] (List.getElem_mem hlt)
                  have hA : inA l[k].h l[k].l := ⟨hg.2.2.1, hg.2.2.2.1, hg.2.2.2.2.1, hg.2.2.2.2.2.1⟩
                  have hw1 : IntKind.i64.wrap ((k : Int) + 1) = k + 1 := wr_i64 (by omega) (by omega)
                  have hs := sndR_succ l k
                  rw [okJ, ap_get hlt, hJ, Bool.true_and] at hs
                  have hfail : okJ l k = false → 8 = chkRoa l := by
                    intro hf
                    have : sndR l l.length = false := by
                      simp only [sndR, List.all_eq_false, List.mem_range]
                      exact ⟨k, hlt, by simp [hf]⟩
                    simp [chkRoa, h100, h0, this]
                  rw [okJ, ap_get hlt] at hfail
                  refine W.seqE hT mixed M_f28 (by kernel_rfl) ?_
                  simp [hlt]
                  refine W.cut (sndR l (k + 1) = true) [(1, .ptr 0 0), (3, .int .i64 k)] [.box 25 [.int .u32 w, .rd 5 (l.map AP.row)]] 59 ?_ ?_
                  · refine W.block ?_
                    refine W.seqE hT mixed M_f28 (by kernel_rfl) ?_
                    simp [hlt, AP.row]
                    refine W.cut (okAP l[k] = true) [(1, .ptr 0 0), (3, .int .i64 k), (4, .ptr 1 0)] [.box 25 [.int .u32 w, .rd 5 (l.map AP.row)], .box 76 l[k].row] 59 ?_ ?_
                    · refine W.of_WE hT mixed M_f28 _ (by kernel_rfl) ?_
                      by_cases c1 : chkP l[k].f l[k].h l[k].l l[k].n = 0
                      · by_cases c2 : l[k].m < l[k].n
                        · simp [AP.row, SCheck, hA, c1, c2]
                          exact hfail (by simp [okAP, c1, show ¬ l[k].n ≤ l[k].m by omega])
                        · by_cases c3 : (widN l[k].f : Int) < l[k].m
                          · simp [AP.row, SCheck, SWid, wid_N, hA, c1, c2, c3]
                            exact hfail (by simp [okAP, c1, show ¬ l[k].m ≤ (widN l[k].f : Int) by omega])
                          · simp [AP.row, SCheck, SWid, wid_N, hA, c1, c2, c3]
                            simp [okAP, c1, show l[k].n ≤ l[k].m by omega, show l[k].m ≤ (widN l[k].f : Int) by omega]
                      · simp [AP.row, SCheck, hA, c1]
                        exact hfail (by simp [okAP, c1])
                    · intro hok
                      refine W.of_WE hT mixed M_f28 _ (by kernel_rfl) ?_
                      cases k with
                      | zero =>
                        simp [AP.row]
                        rw [hs, hok]
                        rfl
                      | succ j =>
                        have hw2 : IntKind.i64.wrap (j : Int) = j := wr_i64 (by omega) (by omega)
                        simp [AP.row, hw2, show j < l.length by omega, SBef, apOf, show 0 < (j : Int) + 1 by omega]
                        rw [hok, ap_get (show j + 1 - 1 < l.length by omega)] at hs hfail
                        simp at hs hfail
                        refine ⟨fun hf => hfail hf, fun hf => ?_⟩
                        rw [hs]
                        exact hf
                  · intro hs1
                    refine W.of_WE hT mixed M_f28 _ (by kernel_rfl) ?_
                    simp [hw1, hlt, hs1]
                · have : k = l.length := by omega
                  subst this
                  refine W.of_WE hT mixed M_f28 _ (by kernel_rfl) ?_
                  simp [hJ]
            · intro hsn
              refine W.of_WE hT mixed M_f28 _ (by kernel_rfl) ?_
              simp +contextual [Try.f28, chkRoa, h100, h0, hsn]
      · cases hh
    · cases hh
  · cases hh

end Go.Proofs.Ythfbddnpakhjiaa.AL
