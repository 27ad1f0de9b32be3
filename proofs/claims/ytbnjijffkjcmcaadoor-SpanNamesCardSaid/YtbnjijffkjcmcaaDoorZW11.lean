import Derived.Test.YtbnjijffkjcmcaaDoorZW10
import Derived.Test.YtbnjijffkjcmcaaDoorZAL4
import Derived.LaidMore
import Derived.Stop.Joined
import Derived.Stop.LaidErr
import Derived.Lib.LaidTab
import Derived.Shelf.Vars
import Derived.HandedShaped
import Derived.Lib.Walk
import Derived.Lib.AtoiErrMem
import Derived.Test.YtbnjijffkjcmcaaDoorRows
/- What single functions compute: a part of the proof; no conditions. -/
set_option linter.unusedVariables false
set_option linter.unusedSimpArgs false
set_option maxRecDepth 100000
set_option linter.unusedSectionVars false
namespace Go.Proofs.YtbnjijffkjcmcaaDoor.AL
open Go
attribute [local simp] qf cv qbin ibin sbin qun retPost rvOk ctV ctPost marksOk retV resAll resOf V.lt ltL V.ren renL V.exp V.exp1 cleanL V.clean closedL V.closed V.cells V.one V.tree
  loadV cellsAt isNC nilQ isSlD isIfD slNew ownRows ownCells V.isOwn slStore srcO qlook mlook mget mstr zval qnone qmake mput lmap isAggD placesOf fillV putCells lstore bound seqParts V.sh shL Blk.sh newV V.ok peqs peq srcRows qbytes byteSl appOk mmV mmR hidE V.fz fzL Blk.fz fzOk and_assoc
attribute [-simp] Int.not_le Int.not_lt Nat.not_le Nat.not_lt
def M_f13 : Md := fun i => if i = 16 then some #[0, 1, 3, 7, 15, 31, 63, 63, 255, 511, 1023, 2047, 4095, 8191, 16383, 32767, 65535, 131071, 262143, 262143, 1048575, 2097151, 4194303, 8388607, 16777215, 33554431, 67108863, 134217727, 268435455, 536870911, 1073741823, 1073741823, 4294967295, 8589934591, 17179869183, 34359738367, 68719476735, 137438953471, 274877906943, 549755813887, 1099511627775, 2199023255551, 4398046511103, 8796093022207, 8796093022207, 8796093022207, 61572651155455, 140737488355327, 281474976710655, 562949953421311, 1125899906842623, 2251799813685247, 4503599627370495, 9007199254740991] else if i = 26 then some #[0, 1, 3, 7, 15, 31, 63, 127, 255, 511, 1023, 2047, 4095, 8191, 16383, 32767, 65535, 131071, 262143, 524287, 524287, 1572863, 3670015, 8388607, 16777215, 33554431] else some #[]
@[simp] theorem M_f13_eq {i : Nat} : M_f13 i = (if i = 16 then some #[0, 1, 3, 7, 15, 31, 63, 63, 255, 511, 1023, 2047, 4095, 8191, 16383, 32767, 65535, 131071, 262143, 262143, 1048575, 2097151, 4194303, 8388607, 16777215, 33554431, 67108863, 134217727, 268435455, 536870911, 1073741823, 1073741823, 4294967295, 8589934591, 17179869183, 34359738367, 68719476735, 137438953471, 274877906943, 549755813887, 1099511627775, 2199023255551, 4398046511103, 8796093022207, 8796093022207, 8796093022207, 61572651155455, 140737488355327, 281474976710655, 562949953421311, 1125899906842623, 2251799813685247, 4503599627370495, 9007199254740991] else if i = 26 then some #[0, 1, 3, 7, 15, 31, 63, 127, 255, 511, 1023, 2047, 4095, 8191, 16383, 32767, 65535, 131071, 262143, 524287, 524287, 1572863, 3670015, 8388607, 16777215, 33554431] else some #[]) := rfl
def strW (L : List (List UInt8)) : List (List V) := L.map fun s => [.str (bs s)]
theorem strW_at {L : List (List UInt8)} {k : Nat} (h : k < L.length) : (strW L)[k]? = some [.str (bs L[k])] := by
  unfold strW; rw [List.getElem?_map, List.getElem?_eq_getElem h]; rfl
def badS : List (List UInt8) := [[], [49, 48, 46, 48, 46, 48, 46, 48, 45, 49, 48, 46, 48, 46, 48, 46, 50, 53, 53], [49, 48, 46, 48, 46, 48, 46, 50, 45, 49, 48, 46, 48, 46, 48, 46, 49], [49, 48, 46, 48, 46, 48, 46, 48], [49, 48, 46, 48, 46, 48, 46, 48, 45], [45], [49, 48, 46, 48, 46, 48, 46, 49, 45, 58, 58, 49], [49, 48, 46, 48, 46, 48, 46, 49, 45, 49, 48, 46, 48, 46, 48, 46, 52, 45, 49, 48, 46, 48, 46, 48, 46, 53], [49, 48, 46, 48, 46, 48, 46, 49, 45, 49, 48, 46, 48, 46, 48, 46, 49], [49, 48, 46, 48, 46, 48, 46, 49, 47, 56], [58, 58, 45, 58, 58]]
theorem badS_ok : (badS.all fun s => decide (s.length < 100000) && (sp s).isNone) = true := by kernel_rfl
theorem badS_at {k : Nat} (h : k < 11) : ∃ t : List UInt8, (strW badS)[k]? = some [.str (bs t)] ∧ SSP [.str (bs t)] = some ⟨.tup [.int .u8 0, .agg [.int .u64 0, .int .u64 0, .int .u64 0, .int .u64 0], .int .i64 12], []⟩ := by
  have hl : k < badS.length := h
  have := List.all_eq_true.1 badS_ok badS[k] (List.getElem_mem hl)
  simp only [Bool.and_eq_true, decide_eq_true_eq, Option.isNone_iff_eq_none] at this
  have hp := sp_at this.1
  rw [this.2] at hp
  exact ⟨_, strW_at hl, hp⟩
theorem pre_ex {f h l h' l' : Int} {n : Nat} (h1 : inA h l) (h2 : inA h' l') (hc : chkS f h l h' l' = 0) (hn : (wRows f (numA (h, l)) (numA (h', l')) (widN f) 0).length = n) :
    ∃ R : List (List V), SPre [.int .u8 f, .agg [.int .u64 h, .int .u64 l, .int .u64 h', .int .u64 l']] = some ⟨.tup [.own 0, .int .i64 0], [.sl 4 26 R]⟩ ∧ R.length = n := by
  refine ⟨_, ?_, hn⟩
  simp only [SPre]
  rw [if_pos ⟨h1, h2⟩, if_pos hc]
theorem pre_bad {f h l h' l' c : Int} (h1 : inA h l) (h2 : inA h' l') (hc : chkS f h l h' l' = c) (hn : ¬ c = 0) :
    SPre [.int .u8 f, .agg [.int .u64 h, .int .u64 l, .int .u64 h', .int .u64 l']] = some ⟨.tup [.nils, .int .i64 c], []⟩ := by
  simp only [SPre]
  rw [if_pos ⟨h1, h2⟩, hc, if_neg hn]
theorem spanNames_runs : ∀ As, ArgsV Tryd.prog Tryd.f13.params.toList [] As → Runs Tryd.prog 13 As ⟨.bool true, []⟩ := by
  intro As hA
  simp [Tryd.f13, ArgsV, LSh, VSh, argV] at hA
  subst hA
  have hT : (((((((T0.add 44 SLowA).add 35 SPre).add 39 SNext).add 40 SPrev).add 38 SOf).add 42 SSP).add 36 SChkS |>.add 34 SAlive2).ok Tryd.prog := Tab.add_ok (Tab.add_ok (Tab.add_ok (Tab.add_ok (Tab.add_ok (Tab.add_ok (Tab.add_ok (Tab.add_ok (T0_ok _) runs_law02_addr) runs_span_Prefixes) runs_span_Next) runs_span_Prev) runs_span_Of) runs_span_Parse) runs_span_Check) runs_alive2
  obtain ⟨R1, p1, n1⟩ := pre_ex (f := 4) (h := 0) (l := 1) (h' := 0) (l' := 4294967294) (n := 62) (by decide) (by decide) (by kernel_rfl) (by kernel_rfl)
  obtain ⟨R2, p2, n2⟩ := pre_ex (f := 6) (h := 0) (l := 1) (h' := 18446744073709551615) (l' := 18446744073709551614) (n := 254) (by decide) (by decide) (by kernel_rfl) (by kernel_rfl)
  have p3 : SPre [.int .u8 6, .agg [.int .u64 0, .int .u64 0, .int .u64 18446744073709551615, .int .u64 18446744073709551615]] = some ⟨.tup [.own 0, .int .i64 0], [.sl 4 26 [[.int .u8 6, .int .u64 0, .int .u64 0, .int .i64 0]]]⟩ := by
    have e : wRows 6 (numA (0, 0)) (numA (18446744073709551615, 18446744073709551615)) (widN 6) 0 = [[.int .u8 6, .int .u64 0, .int .u64 0, .int .i64 0]] := by kernel_rfl
    simp only [SPre]
    rw [if_pos ⟨by decide, by decide⟩, if_pos (by kernel_rfl), e]
  have p4 := pre_bad (f := 4) (h := 0) (l := 2) (h' := 0) (l' := 1) (c := 8) (by decide) (by decide) (by kernel_rfl) (by decide)
  have p5 := pre_bad (f := 0) (h := 0) (l := 0) (h' := 0) (l' := 0) (c := 2) (by decide) (by decide) (by kernel_rfl) (by decide)
  have s1 : SNext [.int .u8 4, .agg [.int .u64 0, .int .u64 4294967295]] = some ⟨.tup [.agg [.int .u64 0, .int .u64 0], .bool false], []⟩ := by kernel_rfl
  have s2 : SNext [.int .u8 6, .agg [.int .u64 0, .int .u64 4294967295]] = some ⟨.tup [.agg [.int .u64 0, .int .u64 4294967296], .bool true], []⟩ := by kernel_rfl
  have s3 : SNext [.int .u8 6, .agg [.int .u64 18446744073709551615, .int .u64 18446744073709551615]] = some ⟨.tup [.agg [.int .u64 0, .int .u64 0], .bool false], []⟩ := by kernel_rfl
  have s4 : SNext [.int .u8 6, .agg [.int .u64 0, .int .u64 18446744073709551615]] = some ⟨.tup [.agg [.int .u64 1, .int .u64 0], .bool true], []⟩ := by kernel_rfl
  have s5 : SPrev [.agg [.int .u64 0, .int .u64 0]] = some ⟨.tup [.agg [.int .u64 0, .int .u64 0], .bool false], []⟩ := by kernel_rfl
  have s6 : SPrev [.agg [.int .u64 1, .int .u64 0]] = some ⟨.tup [.agg [.int .u64 0, .int .u64 18446744073709551615], .bool true], []⟩ := by kernel_rfl
  have s7 : SNext [.int .u8 4, .agg [.int .u64 0, .int .u64 4294967296]] = some ⟨.tup [.agg [.int .u64 0, .int .u64 0], .bool false], []⟩ := by kernel_rfl
  have o1 : SOf [.agg [.int .u8 6, .int .u64 9223372036854775808, .int .u64 0, .int .i64 1]] = some ⟨.tup [.agg [.int .u64 9223372036854775808, .int .u64 0, .int .u64 18446744073709551615, .int .u64 18446744073709551615], .int .i64 0], []⟩ := by kernel_rfl
  have o2 : SOf [.agg [.int .u8 4, .int .u64 0, .int .u64 1, .int .i64 31]] = some ⟨.tup [.agg [.int .u64 0, .int .u64 0, .int .u64 0, .int .u64 0], .int .i64 8], []⟩ := by kernel_rfl
  have q1 : SSP [.str ⟨#[58, 58, 49, 45, 58, 58, 50]⟩] = some ⟨.tup [.int .u8 6, .agg [.int .u64 0, .int .u64 1, .int .u64 0, .int .u64 2], .int .i64 0], []⟩ := by
    have := sp_at (l := [58, 58, 49, 45, 58, 58, 50]) (by decide)
    rw [show sp [58, 58, 49, 45, 58, 58, 50] = some (6, 0, 1, 0, 2) from sp_iff.2 ⟨⟨by decide, by decide, by decide, by decide⟩, by kernel_rfl, by kernel_rfl⟩] at this
    exact this
  have c1 : SChkS [.int .u8 5, .agg [.int .u64 0, .int .u64 0, .int .u64 0, .int .u64 0]] = some ⟨.int .i64 2, []⟩ := by kernel_rfl
  have c2 : SChkS [.int .u8 4, .agg [.int .u64 0, .int .u64 0, .int .u64 1, .int .u64 0]] = some ⟨.int .i64 8, []⟩ := by kernel_rfl
  have c3 : SChkS [.int .u8 6, .agg [.int .u64 0, .int .u64 0, .int .u64 1, .int .u64 0]] = some ⟨.int .i64 0, []⟩ := by kernel_rfl
  refine Runs.of_body Tryd.func13 (by decide) rfl (by simp [Tryd.f13]) ?_
  refine W.seqE hT mixed M_f13 (by kernel_rfl) ?_
  simp [Tryd.f13]
  refine W.seqE hT mixed M_f13 (by kernel_rfl) ?_
  simp [Tryd.f13, SLowA, p1]
  refine W.seqE hT mixed M_f13 (by kernel_rfl) ?_
  simp [Tryd.f13, SLowA, p2]
  refine W.seqE hT mixed M_f13 (by kernel_rfl) ?_
  simp [Tryd.f13, SLowA, p3]
  refine W.seqE hT mixed M_f13 (by kernel_rfl) ?_
  simp [Tryd.f13, SLowA, p4]
  refine W.seqE hT mixed M_f13 (by kernel_rfl) ?_
  simp [Tryd.f13, SLowA, p5]
  refine W.seqE hT mixed M_f13 (by kernel_rfl) ?_
  simp [Tryd.f13, SLowA, s1]
  refine W.seqE hT mixed M_f13 (by kernel_rfl) ?_
  simp [Tryd.f13, SLowA, s2]
  refine W.seqE hT mixed M_f13 (by kernel_rfl) ?_
  simp [Tryd.f13, SLowA, s3]
  refine W.seqE hT mixed M_f13 (by kernel_rfl) ?_
  simp [Tryd.f13, SLowA, s4]
  refine W.seqE hT mixed M_f13 (by kernel_rfl) ?_
  simp [Tryd.f13, SLowA, s5]
  refine W.seqE hT mixed M_f13 (by kernel_rfl) ?_
  simp [Tryd.f13, SLowA, s6]
  refine W.seqE hT mixed M_f13 (by kernel_rfl) ?_
  simp [Tryd.f13, SLowA, s7]
  refine W.seqE hT mixed M_f13 (by kernel_rfl) ?_
  simp [Tryd.f13, SLowA, o1]
  refine W.seqE hT mixed M_f13 (by kernel_rfl) ?_
  simp [Tryd.f13, SLowA, o2]
  refine W.cut True [(12, .bool false), (13, .ptr 0 0), (14, .bool true), (16, .bool false), (17, .ptr 1 0), (18, .bool true), (20, .bool false), (21, .ptr 2 0), (22, .bool true), (24, .bool false), (25, .ptr 3 0), (26, .int .i64 0), (28, .int .i64 8), (29, .bool true)] [.box 24 [.int .u64 0, .int .u64 4294967296], .box 24 [.int .u64 1, .int .u64 0], .box 24 [.int .u64 0, .int .u64 18446744073709551615], .box 65 [.int .u64 9223372036854775808, .int .u64 0, .int .u64 18446744073709551615, .int .u64 18446744073709551615]] 272 ?_ ?_
  · refine W.of_WE hT mixed M_f13 _ (by kernel_rfl) ?_
    simp [Tryd.f13, n1, n2]
  intro _
  refine W.cut True [(29, .bool true), (30, .bool true)] [] 272 ?_ ?_
  · refine W.of_WE hT mixed M_f13 _ (by kernel_rfl) ?_
    simp [Tryd.f13, SLowA]
  intro _
  refine W.cut True [(29, .bool true), (30, .bool true)] [] 272 ?_ ?_
  · refine W.cut True [(29, .bool true), (30, .bool true), (212, .own 0), (213, .int .i64 11), (214, .int .i64 0)] [.sl 1 9 (strW badS)] 272 ?_ ?_
    · refine W.of_WE hT mixed M_f13 _ (by kernel_rfl) ?_
      simp [Tryd.f13, badS, strW, bs]
    intro _
    refine W.block (W.for (fun _ => True) (fun k => [(29, .bool true), (30, .bool true), (212, .own 0), (213, .int .i64 11), (214, .int .i64 k)]) (fun k => [.sl 1 9 (strW badS)]) 272 11 trivial ?_ ?_)
    · simp
    · intro k hk _
      refine W.of_WE hT mixed M_f13 _ (by kernel_rfl) ?_
      have hlen : (strW badS).length = 11 := rfl
      by_cases hlt : k < 11
      · obtain ⟨t, g1, g2⟩ := badS_at hlt
        have w1 : IntKind.i64.wrap ((k : Int) + 1) = ((k + 1 : Nat) : Int) := by rw [wr_i64 (by omega) (by omega)]; omega
        simp [Tryd.f13, hlen, show (k : Int) < 11 by omega, g1, g2, w1, List.getD_eq_getElem?_getD]
        try exact hlt
      · simp [Tryd.f13, hlen, show ¬ (k : Int) < 11 by omega]
  intro _
  refine W.seqE hT mixed M_f13 (by kernel_rfl) ?_
  simp [Tryd.f13, q1]
  refine W.cut True [(29, .bool true), (30, .bool true), (36, .int .u8 6), (37, .ptr 0 0), (38, .int .i64 0), (39, .bool true)] [.box 65 [.int .u64 0, .int .u64 1, .int .u64 0, .int .u64 2]] 272 ?_ ?_
  · refine W.of_WE hT mixed M_f13 _ (by kernel_rfl) ?_
    simp [Tryd.f13, c1, c2, c3]
  intro _
  refine W.of_WE hT mixed M_f13 _ (by kernel_rfl) ?_
  simp [Tryd.f13, SLowA, SAlive2]

end Go.Proofs.YtbnjijffkjcmcaaDoor.AL
namespace Go.Proofs.YtbnjijffkjcmcaaDoor.AL
open Go
/-! A law whose row lists variables, with the world's shape. -/
open Go.WideShapes Go.ChangeShapes
section
variable {H : Type} {enc : TypeId × Value → H}
theorem handed_and_shaped {a : Assume} {C : Checked} {os : Os} {f : FuncId} {fn : Func} {s : ChangeSpec} {conds : List PathCond} {apart fresh handsOn again : Bool} {X : World → Array Value → Prop}
    (hX : ∀ (w w' : World) (args : Array Value), w.heap = w'.heap → X w args → X w' args)
    (own : ownKnob C.prog.godebug = none) (started : os.Started) (noInit : C.prog.inits.idxOf? f = none) (hfn : C.prog.funcs[f]? = some fn)
    (witness : ∃ (w : World) (tape : Tape) (i : Input), w.os = os ∧ (w.forCall tape i).Shaped C.prog ∧ i.vars = [] ∧ Input.okWide C.prog (w.forCall tape i) .any w.heap.size f i ∧
      ((s.pre enc C.prog fn conds apart (w.forCall tape i).memory i.args ∧ X (w.forCall tape i).memory i.args) ∧ sizedMet enc C.prog fn (OpenSpec.ofChange s) apart (w.forCall tape i).memory i.args) ∧ a.holds C.prog (lone (Frame.enter C.prog f i.args .normal) [] (w.forCall tape i)))
    (contract : ∀ (W : World) (base : Nat) (args : Array Value) (ds gs : List (DataW H)) (before : List MemPlace),
      (∀ (j : Nat) t v, fn.params[j]? = some t → args[j]? = some v → Value.okWide C.prog W .any base t v) →
      DataW.Whole enc C.prog fn.params.toList s.vars apart W args.toList ds gs before → X W args → W.ShapedOpen C.prog →
      Calls C.prog f args W fun e W' => ∃ v, e = .returned v ∧ s.post enc C.prog fn apart fresh handsOn again W args v W') :
    ReturnsInHanded a C os f .any (fun w args => (s.pre enc C.prog fn conds apart w args ∧ X w args) ∧ sizedMet enc C.prog fn (OpenSpec.ofChange s) apart w args) (s.post enc C.prog fn apart fresh handsOn again) := by
  refine returnsInHanded_of_calls own started noInit witness ?_
  intro w tape i _ hsh _ hok hpre hholds
  obtain ⟨_, _, _, fn', hfn', _, _, _, _, hval⟩ := hok
  have e : fn' = fn := Option.some.inj (hfn'.symm.trans hfn)
  subst e
  obtain ⟨⟨⟨ds, gs, before, hw, hc⟩, hx⟩, hz⟩ := hpre
  have hw' := DataW.Whole.of_heap (w' := w.forCall tape i) (by rfl) hw
  refine (contract (w.forCall tape i) w.heap.size i.args ds gs before hval hw' (hX _ _ _ (by rfl) hx) hsh).mono fun e W' ⟨v, he, hp⟩ => ?_
  subst he
  exact ChangeSpec.post_blind hp
theorem law_lifted_shaped {C : Checked} [Gl C.prog] {os : Os} {f : FuncId} {fn : Func} {c : Code} {s : ChangeSpec} {apart fresh handsOn : Bool} {tb : TypeId} {k : Nat} {ls : List (List Sh)} {laid : List (String × DataW Unit)}
    (own : ownKnob C.prog.godebug = none) (laidOut : laidOutB C.prog = true) (started : os.Started) (noInit : C.prog.inits.idxOf? f = none) (hf : C.prog.funcs[f]? = some fn) (hn : fn.name ≠ "runtime.NumGoroutine") (hb : fn.body = some c)
    (hvars : s.vars = []) (hres : fn.resultTypes = #[tb]) (htb : C.prog.underlying tb = some .bool) (hpar : ∀ t ∈ fn.params.toList, C.prog.readableRec t = true ∧ t < C.prog.types.size)
    (hspec : ∀ ds : List (DataW H), ds.length = fn.params.size → s.fn H ds = { results := [.lit (.bool true)], args := ds })
    (witness : ∃ (w : World) (tape : Tape) (i : Input), w.os = os ∧ (w.forCall tape i).Shaped C.prog ∧ i.vars = [] ∧ Input.okWide C.prog (w.forCall tape i) .any w.heap.size f i ∧
      ((s.pre enc C.prog fn [] apart (w.forCall tape i).memory i.args ∧ laidMetH C.prog laid (w.forCall tape i).memory) ∧ sizedMet enc C.prog fn (OpenSpec.ofChange s) apart (w.forCall tape i).memory i.args) ∧ ({} : Assume).holds C.prog (lone (Frame.enter C.prog f i.args .normal) [] (w.forCall tape i)))
    (hsh : shAll C.prog k fn.params.toList = some ls)
    (hglob : ∀ W : World, laidMetH C.prog laid W → W.ShapedOpen C.prog → GOK C.prog ⟨W, fun _ => False, fun _ => undef, fun _ => False⟩)
    (hruns : ∀ As, ArgsV C.prog fn.params.toList ls As → Runs C.prog f As ⟨.bool true, []⟩) :
    ReturnsInHanded {} C os f .any (fun w args => (s.pre enc C.prog fn [] apart w args ∧ laidMetH C.prog laid w) ∧ sizedMet enc C.prog fn (OpenSpec.ofChange s) apart w args) (s.post enc C.prog fn apart fresh handsOn false) := by
  refine handed_and_shaped (C := C) (X := fun w _ => laidMetH C.prog laid w) (fun _ _ _ hh h => h.of_heap hh) own started noInit hf witness ?_
  intro W base args ds gs before hval hW hL hS
  have hW' := hW
  obtain ⟨p, q, hA, hV, rfl, hfz, hnd⟩ := hW
  rw [hvars] at hV
  obtain ⟨rfl, rfl⟩ := trodVars_none hV
  obtain ⟨As, h1, h2⟩ := args_V (E := ⟨W, fun _ => False, fun _ => undef, fun _ => False⟩) rfl (by simp) hA hsh (fun j t v e1 e2 => hval j t v (by simpa using e1) (by simpa using e2))
  have hlen : ds.length = fn.params.size := by
    have : ∀ {ts : List TypeId} {vs : List Value} {ds : List (DataW H)} {ps : List MemPlace}, DataW.TrodAll enc C.prog W 0 (fun _ => true) true ts vs ds ps → ds.length = ts.length := by
      intro ts
      induction ts with
      | nil => intro vs ds ps h; obtain ⟨_, rfl, _⟩ := trodAll_nil h; rfl
      | cons t ts ih =>
        intro vs ds ps h
        obtain ⟨_, _, _, _, _, _, _, rfl, _, _, h2⟩ := trodAll_cons h
        simp [ih h2]
    simpa using this hA
  have hc := law_calls (vs := args.toList) hf hn hb (hruns As h1) (hglob W hL hS) h2
  rw [show args.toList.toArray = args by simp] at hc
  refine hc.mono fun e W' ⟨he, bel⟩ => ?_
  subst he
  obtain ⟨qs, hq⟩ := args_behind laidOut bel hA hpar
  refine ⟨_, rfl, ds, [], _, [], qs, [], hW', ?_, ?_, ?_, bel.frame _, fun h => by cases h⟩
  · rw [List.append_nil, hspec ds hlen, hres]
    exact trodAll_mk1 (Go.RowKit.shut_bool htb _)
  · rw [List.append_nil, hspec ds hlen]
    exact hq
  · rw [List.append_nil, hspec ds hlen, hvars]
    rfl
end
/-! What the listed variables tell. -/
theorem RRow.of_cells {E : Env} {g : Nat} : ∀ (cs : List V) (vs : List Value) (o : Nat), RL E cs vs → (∀ u ∈ vs, u.oneCell' = true) → (∀ j u, vs[j]? = some u → E.w.cell? ⟨g, o + j, none⟩ = some u) → RRow E cs g o :=
  fun cs vs o h1 h2 h3 => RRow.of_list h1 h3 h2
theorem RL_ints {E : Env} (k : IntKind) : ∀ (zs : List Int), RL E (zs.map fun n => .int k n) (zs.map fun n => Value.int k n)
  | [] => by simp [RL]
  | z :: zs => by simp only [List.map_cons, RL, R]; exact ⟨_, _, rfl, rfl, RL_ints k zs⟩
theorem rptr_of_tab {P : Program} {W : World} {name : String} {k : IntKind} {zs : List Int} {g : Nat} (h : Lib.TabIs P W name k zs) (hg : P.globalNamed name = some g) (hne : zs ≠ []) :
    R ⟨W, fun _ => False, fun _ => undef, fun _ => False⟩ (.rptr (zs.map fun n => .int k n) 0) (.pointer (some ⟨g, 0, none⟩)) := by
  have hc := fun i hi => h.cell hg i hi
  simp only [R]
  refine ⟨g, 0, rfl, fun h => h, ?_, ?_, RRow.of_cells _ (zs.map fun n => Value.int k n) 0 (RL_ints k zs) ?_ ?_⟩
  · obtain ⟨z, zs', rfl⟩ := List.exists_cons_of_ne_nil hne
    exact Lib.lt_of_cell (hc 0 (by simp))
  · intro c hc
    obtain ⟨n, _, rfl⟩ := List.mem_map.1 hc
    rfl
  · intro u hu
    obtain ⟨n, _, rfl⟩ := List.mem_map.1 hu
    rfl
  · intro j u hu
    rw [Nat.zero_add]
    obtain ⟨hj, rfl⟩ := List.getElem?_eq_some_iff.1 hu
    rw [hc j (by simpa using hj)]
    have hj' : j < zs.length := by simpa using hj
    simp [hj']
theorem lay_of_tab {P : Program} {W : World} {name : String} {k : IntKind} {zs : List Int} {g : Nat} (h : Lib.TabIs P W name k zs) (hg : P.globalNamed name = some g) :
    g < W.heap.size ∧ ∃ arr ty fr, W.heap[g]? = some (.cells arr ty fr) ∧ arr.toList = zs.map fun z => Value.int k z := by
  unfold Lib.TabIs World.var? at h
  rw [hg, Option.bind_some] at h
  split at h
  · rename_i cs ty fr hh
    simp only [Option.some.injEq] at h
    exact ⟨(Array.getElem?_eq_some_iff.1 hh).1, cs, ty, fr, hh, by rw [h]⟩
  · cases h
theorem rptr_one {W : World} {g : Nat} {x : V} {u : Value} (hx : x.tree = true) (h : W.cell? ⟨g, 0, none⟩ = some u) (ho : u.oneCell' = true) (hr : R ⟨W, fun _ => False, fun _ => undef, fun _ => False⟩ x u) :
    R ⟨W, fun _ => False, fun _ => undef, fun _ => False⟩ (.rptr [x] 0) (.pointer (some ⟨g, 0, none⟩)) := by
  simp only [R]
  refine ⟨g, 0, rfl, fun h => h, Lib.lt_of_cell h, ?_, ?_⟩
  · intro c hc
    simp only [List.mem_cons, List.not_mem_nil, or_false] at hc
    subst hc; exact hx
  · simp only [RRow]
    exact ⟨⟨u, h, ho, hr⟩, trivial⟩
end Go.Proofs.YtbnjijffkjcmcaaDoor.AL
namespace Go.Proofs.YtbnjijffkjcmcaaDoor.AL
open Go
attribute [local simp] qf cv qbin ibin sbin qun retPost rvOk ctV ctPost marksOk retV resAll resOf V.lt ltL V.ren renL V.exp V.exp1 cleanL V.clean closedL V.closed V.cells V.one V.tree
  loadV cellsAt isNC nilQ isSlD isIfD slNew ownRows ownCells V.isOwn slStore srcO qlook mlook mget mstr zval qnone qmake mput lmap isAggD placesOf fillV putCells lstore bound seqParts V.sh shL Blk.sh newV V.ok peqs peq srcRows qbytes byteSl appOk mmV mmR hidE V.fz fzL Blk.fz fzOk and_assoc
attribute [-simp] Int.not_le Int.not_lt Nat.not_le Nat.not_lt
/-! The row's listed variables, and the world's shape, give what the walks lean on. -/
def laidAll : List (String × DataW Unit) := [("math/bits.deBruijn32tab", Go.Proofs.YtbnjijffkjcmcaaDoor.Rows.laid_math_bits_deBruijn32tab), ("math/bits.deBruijn64tab", Go.Proofs.YtbnjijffkjcmcaaDoor.Rows.laid_math_bits_deBruijn64tab), ("internal/strconv.uint64pow10", Go.Proofs.YtbnjijffkjcmcaaDoor.Rows.laid_internal_strconv_uint64pow10), ("unicode/utf8.acceptRanges", Go.Proofs.YtbnjijffkjcmcaaDoor.Rows.laid_unicode_utf8_acceptRanges), ("strconv.ErrRange", Go.Proofs.YtbnjijffkjcmcaaDoor.Rows.laid_strconv_ErrRange), ("strconv.ErrSyntax", Go.Proofs.YtbnjijffkjcmcaaDoor.Rows.laid_strconv_ErrSyntax), ("unicode/utf8.first", Go.Proofs.YtbnjijffkjcmcaaDoor.Rows.laid_unicode_utf8_first)]
theorem gokD (W : World) (h : laidMetH Tryd.prog laidAll W) (hs : W.ShapedOpen Tryd.prog) : GOK Tryd.prog ⟨W, fun _ => False, fun _ => undef, fun _ => False⟩ := by
  have h0 : laidMet Tryd.prog laidAll W := h
  have h1 := h0.tail
  have h2 := h1.tail
  have h3 := h2.tail
  have h4 := h3.tail
  have h5 := h4.tail
  have g5 : Tryd.prog.globalNamed "math/bits.deBruijn64tab" = some 5 := by kernel_rfl
  have g0 : Tryd.prog.globalNamed "internal/strconv.uint64pow10" = some 0 := by kernel_rfl
  have g2 : Tryd.prog.globalNamed "strconv.ErrSyntax" = some 2 := by kernel_rfl
  have g3 : Tryd.prog.globalNamed "strconv.ErrRange" = some 3 := by kernel_rfl
  have t5 : Lib.TabIs Tryd.prog W "math/bits.deBruijn64tab" .u8 [0, 1, 56, 2, 57, 49, 28, 3, 61, 58, 42, 50, 38, 29, 17, 4, 62, 47, 59, 36, 45, 43, 51, 22, 53, 39, 33, 30, 24, 18, 12, 5, 63, 55, 48, 27, 60, 41, 37, 16, 46, 35, 44, 21, 52, 32, 23, 11, 54, 26, 40, 15, 34, 20, 31, 10, 25, 14, 19, 9, 13, 8, 7, 6] :=
    Lib.tabIs_of_head (t := 184) (e := 5) (n := 64) g5 (by kernel_rfl) (by kernel_rfl) (by kernel_rfl) (by kernel_rfl) (by kernel_rfl) h1
  have t0 : Lib.TabIs Tryd.prog W "internal/strconv.uint64pow10" .u64 Lib.pow10Tab :=
    Lib.tabIs_of_head (t := 163) (e := 22) (n := 20) g0 (by kernel_rfl) (by kernel_rfl) (by kernel_rfl) (by kernel_rfl) (by kernel_rfl) h2
  have hrow : ∀ u, Tryd.prog.typeName? 3 u = some "*errors.errorString" → u = 180 := fun u hu => typeName_ptr_named (nm := "errors.errorString") (by rw [show "*" ++ "errors.errorString" = "*errors.errorString" by decide]; kernel_rfl) (by kernel_rfl) (by decide) u (by rw [show "*" ++ "errors.errorString" = "*errors.errorString" by decide]; exact hu)
  obtain ⟨a3, s3, v3, _⟩ := laid_sentinel (ti := 105) (tp := 180) (te := 182) (ts := 9) h4 g3 (by kernel_rfl) Tryd.underlying105 hrow (by kernel_rfl) Tryd.underlying182 rfl rfl (by kernel_rfl) (by kernel_rfl) (by kernel_rfl)
  obtain ⟨a2, s2, v2, _⟩ := laid_sentinel (ti := 105) (tp := 180) (te := 182) (ts := 9) h5 g2 (by kernel_rfl) Tryd.underlying105 hrow (by kernel_rfl) Tryd.underlying182 rfl rfl (by kernel_rfl) (by kernel_rfl) (by kernel_rfl)
  obtain ⟨m, hm⟩ := Go.Proofs.cell_of_shapedOpen_int (g := 1) (zero := #[.int .i64 0]) (t := 3) (k := .i64) hs (of_decide_eq_true (by kernel_rfl)) (by kernel_rfl) rfl (by kernel_rfl) (by kernel_rfl) (by kernel_rfl)
  have c3 := World.var?_cell g3 v3 0
  have c2 := World.var?_cell g2 v2 0
  refine ⟨fun g => ?_, fun g cs hg => ?_⟩
  · show R _ (gvT g) _
    unfold gvT
    split
    · rename_i e; subst e; exact rptr_of_tab t5 g5 (by simp)
    · split
      · rename_i e; subst e; exact rptr_one rfl hm rfl (by simp [R])
      · split
        · rename_i e; subst e; exact rptr_one rfl (by simpa using c2) rfl (by simp [R])
        · split
          · rename_i e; subst e; exact rptr_one rfl (by simpa using c3) rfl (by simp [R])
          · simp [R]
  · change gvL g = some cs at hg
    unfold gvL at hg
    split at hg
    · rename_i e
      subst e
      cases hg
      obtain ⟨k1, k2⟩ := lay_of_tab t0 g0
      exact ⟨fun h => h, k1, k2⟩
    · cases hg

end Go.Proofs.YtbnjijffkjcmcaaDoor.AL
