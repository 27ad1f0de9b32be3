import Derived.Test.YtpcblologcindaaDoorS02eW5
import Derived.Test.YtpcblologcindaaDoorS02eAL4
import Derived.LaidMore
import Derived.Stop.Joined
/- What single functions compute: a part of the proof; no conditions. -/
set_option linter.unusedVariables false
set_option linter.unusedSimpArgs false
set_option maxRecDepth 100000
set_option linter.unusedSectionVars false
namespace Go.Proofs.YtpcblologcindaaDoor.AL
open Go
attribute [local simp] qf cv qbin ibin sbin qun retPost rvOk ctV ctPost marksOk retV resAll resOf V.lt ltL V.ren renL V.exp cleanL V.clean closedL V.closed V.cells V.one V.tree
  loadV cellsAt slNew ownRows ownCells V.isOwn slStore srcO qlook mlook mget mstr zval qnone qmake mput lmap isAggD placesOf fillV putCells lstore bound seqParts V.sh shL Blk.sh newV V.ok peqs peq srcRows appOk mmV mmR hidE V.fz fzL Blk.fz fzOk and_assoc
attribute [-simp] Int.not_le Int.not_lt Nat.not_le Nat.not_lt
theorem cov_eq {f h1 l1 h2 l2 h l : Int} (hA : inA h l) (hc : cAddr f h l = true) : SCovd [.int .u8 f, .rd 4 (wRows f (numA (h1, l1)) (numA (h2, l2)) (widN f) 0), .agg [.int .u64 h, .int .u64 l]] = some ⟨.int .i64 (if numA (h1, l1) ≤ numA (h, l) ∧ numA (h, l) ≤ numA (h2, l2) then 1 else 0), []⟩ := by
  obtain ⟨k1, k2⟩ := countP_rows (a := numA (h1, l1)) (b := numA (h2, l2)) hA hc
  have hlen := wRows_254 (f := f) (a := numA (h1, l1)) (b := numA (h2, l2))
  rw [wRows_map, List.length_map] at hlen
  rw [wRows_map]
  simp only [SCovd, pfsOf_map]
  rw [if_pos ⟨k2, hA, by omega⟩, k1]
  split <;> rfl
def M_f3 : Md := fun i => some #[]
@[simp] theorem M_f3_eq {i : Nat} : M_f3 i = (some #[]) := rfl
theorem spanExact_runs : ∀ As, ArgsV Tryd.prog Tryd.f3.params.toList [[.int .u8], [.int .u64, .int .u64, .int .u64, .int .u64], [.int .u64, .int .u64]] As → Runs Tryd.prog 3 As ⟨.bool true, []⟩ := by
  intro As h
  simp [Tryd.f3, ArgsV, LSh, VSh, argV] at h
  obtain ⟨_, _, rfl, ⟨_, rfl, f, rfl, hf⟩, _, _, rfl, ⟨_, _, rfl, ⟨h1, rfl, hh1⟩, _, _, rfl, ⟨l1, rfl, hl1⟩, _, _, rfl, ⟨h2, rfl, hh2⟩, _, rfl, l2, rfl, hl2⟩, _, rfl, _, _, rfl, ⟨ah, rfl, hah⟩, _, rfl, al, rfl, hal⟩ := h
  have i1 : inA h1 l1 := ⟨(u64_rng hh1).1, (u64_rng hh1).2, (u64_rng hl1).1, (u64_rng hl1).2⟩
  have i2 : inA h2 l2 := ⟨(u64_rng hh2).1, (u64_rng hh2).2, (u64_rng hl2).1, (u64_rng hl2).2⟩
  have ia : inA ah al := ⟨(u64_rng hah).1, (u64_rng hah).2, (u64_rng hal).1, (u64_rng hal).2⟩
  let T := (((((T0.add 14 SAlive2).add 15 SPre).add 16 SChkS).add 17 SAddr).add 18 SCompare).add 19 SCovd
  have hT : T.ok Tryd.prog := Tab.add_ok (Tab.add_ok (Tab.add_ok (Tab.add_ok (Tab.add_ok (Tab.add_ok (T0_ok _) runs_alive2) runs_span_Prefixes) runs_span_Check) runs_number_CheckAddr) runs_number_Compare) runs_covered
  have hal2 : SAlive2 [] = some ⟨.bool true, []⟩ := rfl
  refine Runs.of_body Tryd.func3 (by decide) rfl (by simp [Tryd.f3]) ?_
  refine W.seqE hT mixed M_f3 (by kernel_rfl) ?_
  simp [Tryd.f3]
  refine W.seqE hT mixed M_f3 (by kernel_rfl) ?_
  simp [Tryd.f3, T, hal2]
  by_cases hc : chkS f h1 l1 h2 l2 = 0
  · have hpre : SPre [.int .u8 f, .agg [.int .u64 h1, .int .u64 l1, .int .u64 h2, .int .u64 l2]] = some ⟨.tup [.own 0, .int .i64 0], [.sl 4 40 (wRows f (numA (h1, l1)) (numA (h2, l2)) (widN f) 0)]⟩ := by
      simp only [SPre]; rw [if_pos ⟨i1, i2⟩, if_pos hc]
    have hchk : SChkS [.int .u8 f, .agg [.int .u64 h1, .int .u64 l1, .int .u64 h2, .int .u64 l2]] = some ⟨.int .i64 0, []⟩ := by
      simp only [SChkS, hc]
    obtain ⟨c1, c2, c3⟩ := chkS_zero hc
    have hle := (cmpA_le i1 i2).1 c3
    have hlen := wRows_254 (f := f) (a := numA (h1, l1)) (b := numA (h2, l2))
    have k1 := cov_eq (h1 := h1) (l1 := l1) (h2 := h2) (l2 := l2) i1 c1
    have k2 := cov_eq (h1 := h1) (l1 := l1) (h2 := h2) (l2 := l2) i2 c2
    have k3 := fun hca => cov_eq (h1 := h1) (l1 := l1) (h2 := h2) (l2 := l2) (f := f) ia hca
    rw [if_pos ⟨Int.le_refl _, hle⟩] at k1
    rw [if_pos ⟨hle, Int.le_refl _⟩] at k2
    have hcov : ∀ k, (cmpA h1 l1 ah al ≤ 0 ∧ cmpA ah al h2 l2 ≤ 0 ↔ k) → (numA (h1, l1) ≤ numA (ah, al) ∧ numA (ah, al) ≤ numA (h2, l2) ↔ k) := by
      intro k hk
      rw [← hk, cmpA_le i1 ia, cmpA_le ia i2]
    generalize hR : wRows f (numA (h1, l1)) (numA (h2, l2)) (widN f) 0 = R at *
    refine W.cut True [(0, .int .u8 f), (4, .ptr 0 0), (5, .ptr 1 0), (7, .bool true), (8, .own 2), (9, .int .i64 0)] [.box 26 [.int .u64 h1, .int .u64 l1, .int .u64 h2, .int .u64 l2], .box 24 [.int .u64 ah, .int .u64 al], .sl 4 40 R] 96 ?_ ?_
    · refine W.of_WE hT mixed M_f3 _ (by kernel_rfl) ?_
      simp [Tryd.f3, T, hpre]
    intro _
    refine W.wk (Wk.freeze 2 (.sl 4 40 R) (by simp) (by simp [← hR, wRows_map])) ?_
    refine W.of_WE hT mixed M_f3 _ (by kernel_rfl) ?_
    have hl254 : ¬ (254 : Int) < R.length := by omega
    have hl254' : (R.length : Int) ≤ 254 := by omega
    cases hca : cAddr f ah al
    · simp [Tryd.f3, T, hchk, SAddr, hca, hl254, hl254']
    · have k3 := k3 hca
      by_cases q1 : cmpA h1 l1 ah al ≤ 0
      · by_cases q2 : cmpA ah al h2 l2 ≤ 0
        · rw [if_pos ((hcov _ Iff.rfl).2 ⟨q1, q2⟩)] at k3
          simp [Tryd.f3, T, hchk, SAddr, hca, hl254, hl254', SCompare, q1, q2, k1, k2, k3]
        · rw [if_neg (fun g => q2 ((hcov _ Iff.rfl).1 g).2)] at k3
          simp [Tryd.f3, T, hchk, SAddr, hca, hl254, hl254', SCompare, q1, q2, k1, k2, k3]
      · rw [if_neg (fun g => q1 ((hcov _ Iff.rfl).1 g).1)] at k3
        simp [Tryd.f3, T, hchk, SAddr, hca, hl254, hl254', SCompare, q1, k1, k2, k3]
  · have hpre : SPre [.int .u8 f, .agg [.int .u64 h1, .int .u64 l1, .int .u64 h2, .int .u64 l2]] = some ⟨.tup [.nils, .int .i64 (chkS f h1 l1 h2 l2)], []⟩ := by
      simp only [SPre]; rw [if_pos ⟨i1, i2⟩, if_neg hc]
    have hchk : SChkS [.int .u8 f, .agg [.int .u64 h1, .int .u64 l1, .int .u64 h2, .int .u64 l2]] = some ⟨.int .i64 (chkS f h1 l1 h2 l2), []⟩ := by
      simp only [SChkS]
    refine W.of_WE hT mixed M_f3 _ (by kernel_rfl) ?_
    simp [Tryd.f3, T, hpre, hchk, hc]

end Go.Proofs.YtpcblologcindaaDoor.AL
namespace Go.Proofs.YtpcblologcindaaDoor.AL
open Go
/-! A law whose row lists variables. -/
open Go.WideShapes Go.ChangeShapes
section
variable {H : Type} {enc : TypeId × Value → H}
theorem law_lifted_laid {C : Checked} [Gl C.prog] {os : Os} {f : FuncId} {fn : Func} {c : Code} {s : ChangeSpec} {apart fresh handsOn : Bool} {tb : TypeId} {k : Nat} {ls : List (List Sh)} {laid : List (String × DataW Unit)}
    (own : ownKnob C.prog.godebug = none) (laidOut : laidOutB C.prog = true) (started : os.Started) (noInit : C.prog.inits.idxOf? f = none) (hf : C.prog.funcs[f]? = some fn) (hn : fn.name ≠ "runtime.NumGoroutine") (hb : fn.body = some c)
    (hvars : s.vars = []) (hres : fn.resultTypes = #[tb]) (htb : C.prog.underlying tb = some .bool) (hpar : ∀ t ∈ fn.params.toList, C.prog.readableRec t = true ∧ t < C.prog.types.size)
    (hspec : ∀ ds : List (DataW H), ds.length = fn.params.size → s.fn H ds = { results := [.lit (.bool true)], args := ds })
    (witness : ∃ (w : World) (tape : Tape) (i : Input), w.os = os ∧ (w.forCall tape i).Shaped C.prog ∧ i.vars = [] ∧ Input.okWide C.prog (w.forCall tape i) .any w.heap.size f i ∧
      ((s.pre enc C.prog fn [] apart (w.forCall tape i).memory i.args ∧ laidMetH C.prog laid (w.forCall tape i).memory) ∧ sizedMet enc C.prog fn (OpenSpec.ofChange s) apart (w.forCall tape i).memory i.args) ∧ ({} : Assume).holds C.prog (lone (Frame.enter C.prog f i.args .normal) [] (w.forCall tape i)))
    (hsh : shAll C.prog k fn.params.toList = some ls)
    (hglob : ∀ W : World, laidMetH C.prog laid W → GOK C.prog ⟨W, fun _ => False, fun _ => undef, fun _ => False⟩)
    (hruns : ∀ As, ArgsV C.prog fn.params.toList ls As → Runs C.prog f As ⟨.bool true, []⟩) :
    ReturnsInHanded {} C os f .any (fun w args => (s.pre enc C.prog fn [] apart w args ∧ laidMetH C.prog laid w) ∧ sizedMet enc C.prog fn (OpenSpec.ofChange s) apart w args) (s.post enc C.prog fn apart fresh handsOn false) := by
  refine returnsInHanded_of_change_and (C := C) (X := fun w _ => laidMetH C.prog laid w) (fun _ _ _ hh h => h.of_heap hh) own started noInit hf witness ?_
  intro W base args ds gs before hval hW _ _ hL _
  have hW' := hW
  obtain ⟨p, q, hA, hV, rfl, hfz, hnd⟩ := hW
  rw [hvars] at hV
  obtain ⟨rfl, rfl⟩ := trodVars_none hV
  obtain ⟨As, h1, h2⟩ := args_V (E := ⟨W, fun _ => False, fun _ => undef, fun _ => False⟩) rfl (by simp) hA hsh (fun j t v e1 e2 => hval j t v (by simpa using e1) (by simpa using e2))
  have hlen : ds.length = fn.params.size := by
    have : ∀ {ts : List TypeId} {vs : List Value} {ds : List (DataW H)} {ps : List MemPlace}, DataW.TrodAll enc C.prog W 0 (fun _ => true) true ts vs ds ps → ds.length = ts.length := by
      intro ts
      induction ts with
      | nil => intro vs ds ps h; obtain ⟨_, rfl, _⟩ := trodAll_nil h; rfl
      | cons t ts ih =>
        intro vs ds ps h
        obtain ⟨_, _, _, _, _, _, _, rfl, _, _, h2⟩ := trodAll_cons h
        simp [ih h2]
    simpa using this hA
  have hc := law_calls (vs := args.toList) hf hn hb (hruns As h1) (hglob W hL) h2
  rw [show args.toList.toArray = args by simp] at hc
  refine hc.mono fun e W' ⟨he, bel⟩ => ?_
  subst he
  obtain ⟨qs, hq⟩ := args_behind laidOut bel hA hpar
  refine ⟨_, rfl, ds, [], _, [], qs, [], hW', ?_, ?_, ?_, bel.frame _, fun h => by cases h⟩
  · rw [List.append_nil, hspec ds hlen, hres]
    exact trodAll_mk1 (Go.RowKit.shut_bool htb _)
  · rw [List.append_nil, hspec ds hlen]
    exact hq
  · rw [List.append_nil, hspec ds hlen, hvars]
    rfl
end
end Go.Proofs.YtpcblologcindaaDoor.AL
