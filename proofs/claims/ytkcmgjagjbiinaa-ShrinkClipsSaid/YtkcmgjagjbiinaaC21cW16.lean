import Derived.Test.YtkcmgjagjbiinaaC21cW15
/- What single functions compute: a part of the proof; no conditions. -/
set_option linter.unusedVariables false
set_option linter.unusedSimpArgs false
set_option maxRecDepth 100000
namespace Go.Proofs.Ytkcmgjagjbiinaa.AL
open Go
attribute [local simp] qf cv qbin ibin sbin qun retPost rvOk ctV ctPost marksOk retV resAll resOf V.lt ltL V.ren renL V.exp V.exp1 cleanL V.clean closedL V.closed V.cells V.one V.tree
  loadV cellsAt isNC nilQ isSlD isIfD slNew ownRows ownCells V.isOwn slStore srcO qlook mlook mget mstr zval qnone qmake mput lmap isAggD placesOf fillV putCells lstore bound seqParts V.sh shL Blk.sh newV V.ok peqs peq srcRows qbytes byteSl appOk mmV mmR hidE V.fz fzL Blk.fz fzOk and_assoc
attribute [-simp] Int.not_le Int.not_lt Nat.not_le Nat.not_lt
theorem same_ok {a b : RS} (ha : okR a) (hb : okR b) : SSameR [.agg a.cells, .agg b.cells] = some ⟨.bool (sameR a b), []⟩ := by
  simp only [SSameR, rsOf_cells]
  rw [if_pos ⟨okR_len ha, okR_len hb⟩]
/-- Is the other tree a sound one of this shape? -/
def belB (l o : List HD) : Bool := decide (chkT o = 0) && shpB o l && !(o.any (excT (trL o)))
def M_f8 : Md := fun i => if i = 15 then some #[0, 0, 3, 7, 15, 0, 0, 96, 224, 480, 1023, 2047, 4095, 4095, 8191, 32767] else if i = 20 then some #[0, 0, 3, 7, 15, 0, 0, 96, 224, 480, 1023, 2047, 4095, 4095, 8191, 32767] else if i = 21 then some #[0, 1, 3, 7, 15, 31, 63, 127, 127, 511, 1023, 2047, 4095, 8191, 16383, 16383, 65535, 131071, 262143, 16383, 16383, 1589247, 3686399, 7880703, 16777215, 33554431, 67108863, 134217727] else if i = 24 then some #[0, 0, 3, 7, 15, 0, 0, 96, 224, 480, 1023, 2047, 4095, 4095, 8191, 32767] else some #[]
@[simp] theorem M_f8_eq {i : Nat} : M_f8 i = (if i = 15 then some #[0, 0, 3, 7, 15, 0, 0, 96, 224, 480, 1023, 2047, 4095, 4095, 8191, 32767] else if i = 20 then some #[0, 0, 3, 7, 15, 0, 0, 96, 224, 480, 1023, 2047, 4095, 4095, 8191, 32767] else if i = 21 then some #[0, 1, 3, 7, 15, 31, 63, 127, 127, 511, 1023, 2047, 4095, 8191, 16383, 16383, 65535, 131071, 262143, 16383, 16383, 1589247, 3686399, 7880703, 16777215, 33554431, 67108863, 134217727] else if i = 24 then some #[0, 0, 3, 7, 15, 0, 0, 96, 224, 480, 1023, 2047, 4095, 4095, 8191, 32767] else some #[]) := rfl
theorem shrinkClips_runs : ∀ As, ArgsV Try.prog Try.f8.params.toList [[.sl [.str, .str, .sl [.int .u64, .int .u64, .int .u64, .int .u64], .sl [.int .u64, .int .u64, .int .u64, .int .u64], .sl [.int .u32, .int .u32]]], [.sl [.str, .str, .sl [.int .u64, .int .u64, .int .u64, .int .u64], .sl [.int .u64, .int .u64, .int .u64, .int .u64], .sl [.int .u32, .int .u32]]]] As → Runs Try.prog 8 As ⟨.bool true, []⟩ := by
  intro As h
  obtain ⟨a, ia, b, ib, rfl⟩ : ∃ a : List HD, (∀ h ∈ a, inRS h.r) ∧ ∃ b : List HD, (∀ h ∈ b, inRS h.r) ∧ As = [.rd 5 (hRows a), .rd 5 (hRows b)] := by
    simp only [Try.f8, ArgsV] at h
    obtain ⟨_, _, V1, _, e1, rfl, h1, _, _, V2, _, e2, rfl, h2, rfl, rfl⟩ := h
    simp only [List.cons.injEq] at e1
    obtain ⟨rfl, rfl⟩ := e1
    simp only [List.cons.injEq] at e2
    obtain ⟨rfl, _⟩ := e2
    obtain ⟨a, rfl, ia⟩ := hl_of_shape h1
    obtain ⟨b, rfl, ib⟩ := hl_of_shape h2
    exact ⟨a, ia, b, ib, by simp [argV]⟩
  have gA := grL_at a
  have gB := grL_at b
  have ho := aliveS
  have hT : ((T0.add 21 (oneS [] ⟨.bool true, []⟩)).add 10 SGrL).ok Try.prog :=
    Tab.add_ok (Tab.add_ok (T0_ok _) (oneS_ok runs_law21_alive)) runs_ref21_Great
  have hT2 : ((((T0.add 16 SClip).add 27 SExcs).add 18 SSmT).add 33 SShp).ok Try.prog :=
    Tab.add_ok (Tab.add_ok (Tab.add_ok (Tab.add_ok (T0_ok _) runs_shrink_Clip) runs_shrink_Excess) runs_ref21_Same) runs_ref21_Shape
  have hT3 : (((T0.add 32 SChkT).add 34 SSnd).add 33 SShp).ok Try.prog :=
    Tab.add_ok (Tab.add_ok (Tab.add_ok (T0_ok _) runs_ref21_Check) runs_ref21_Sound) runs_ref21_Shape
  have hT4 : ((T0.add 25 SCont).add 35 SSameR).ok Try.prog :=
    Tab.add_ok (Tab.add_ok (T0_ok _) runs_resource_Contains) runs_resource_Same
  refine Runs.of_body Try.func8 (by decide) rfl (by simp [Try.f8]) ?_
  refine W.seqE hT mixed M_f8 (by kernel_rfl) ?_
  simp [Try.f8]
  refine W.cut True [(0, .rd 5 (hRows a)), (1, .rd 5 (hRows b)), (5, .bool true)] [] 190 ?_ ?_
  · refine W.of_WE hT mixed M_f8 _ (by kernel_rfl) ?_
    simp [ho]
  intro _
  cases ga : grtL a
  case true =>
    rw [ga] at gA
    refine W.of_WE hT mixed M_f8 _ (by kernel_rfl) ?_
    simp [gA]
  case false =>
  rw [ga] at gA
  cases gb : grtL b
  case true =>
    rw [gb] at gB
    refine W.of_WE hT mixed M_f8 _ (by kernel_rfl) ?_
    simp [gA, gB]
  case false =>
  rw [gb] at gB
  obtain ⟨ja, sa⟩ := dom_of ga ia
  obtain ⟨jb, sb⟩ := dom_of gb ib
  refine W.seqE hT mixed M_f8 (by kernel_rfl) ?_
  simp [gA, gB]
  have hp := clip_at ja
  by_cases hz : chkT a = 0
  case neg =>
    rw [if_pos hz] at hp
    refine W.cut True [(5, .bool true), (6, .nils), (7, .int .i64 (chkT a))] [] 190 ?_ ?_
    · refine W.of_WE hT2 mixed M_f8 _ (by kernel_rfl) ?_
      simp [hp]
    intro _
    refine W.of_WE hT2 mixed M_f8 _ (by kernel_rfl) ?_
    simp [hz]
  case pos =>
  rw [if_neg (by simpa using hz)] at hp
  cases hcl : clipF a (downL a false) with
  | none =>
    rw [hcl] at hp
    simp only at hp
    refine W.cut True [(5, .bool true), (6, .nils), (7, .int .i64 4)] [] 190 ?_ ?_
    · refine W.of_WE hT2 mixed M_f8 _ (by kernel_rfl) ?_
      simp [hp]
    intro _
    refine W.of_WE hT2 mixed M_f8 _ (by kernel_rfl) ?_
    simp
  | some R =>
  rw [hcl] at hp
  simp only at hp
  have C := clp_of ja hz hcl
  have he := C.exc
  have hag := C.again
  have hcin := C.inl
  obtain ⟨c, hc⟩ : ∃ c, c = trX a R := ⟨_, rfl⟩
  have hcl2 : c.length = a.length := by rw [hc]; simp
  have hcg : ∀ i (h : i < a.length) (h2 : i < c.length), c[i].r = R i := fun i h h2 => by
    have := trX_get (R := R) h
    rw [← hc, hd_get h2] at this
    rw [this]
  have hsm : SSmT [.rd 5 (hRows c), .rd 5 (hRows c)] = some ⟨.bool true, []⟩ := by
    simp only [SSmT, hRows_parse]
    rw [if_pos ⟨fun h hm => (hcin.1 h (hc ▸ hm)).2.2, fun h hm => (hcin.1 h (hc ▸ hm)).2.2, by rw [hcl2]; exact ja.2, by rw [hcl2]; exact ja.2⟩, samT_self]
  have hsp : SShp [.rd 5 (hRows c), .rd 5 (hRows a)] = some ⟨.bool true, []⟩ := by
    simp only [SShp, hRows_parse]
    rw [if_pos ⟨by rw [hcl2]; exact ja.2, ja.2⟩, hc, C.shp]
  rw [← hc] at hp he hag hcin
  refine W.cut True [(0, .rd 5 (hRows a)), (1, .rd 5 (hRows b)), (5, .bool true), (6, .rd 5 (hRows c)), (7, .int .i64 0)] [] 190 ?_ ?_
  · refine W.of_WE hT2 mixed M_f8 _ (by kernel_rfl) ?_
    simp [hp]
  intro _
  refine W.seqE hT2 mixed M_f8 (by kernel_rfl) ?_
  simp
  refine W.cut True [(0, .rd 5 (hRows a)), (1, .rd 5 (hRows b)), (5, .bool true), (6, .rd 5 (hRows c)), (8, .rd 1 []), (9, .int .i64 0)] [] 190 ?_ ?_
  · refine W.of_WE hT2 mixed M_f8 _ (by kernel_rfl) ?_
    simp [he]
  intro _
  refine W.cut True [(0, .rd 5 (hRows a)), (1, .rd 5 (hRows b)), (5, .bool true), (6, .rd 5 (hRows c)), (8, .rd 1 []), (9, .int .i64 0), (10, .rd 5 (hRows c)), (11, .int .i64 0)] [] 190 ?_ ?_
  · refine W.of_WE hT2 mixed M_f8 _ (by kernel_rfl) ?_
    simp [hag]
  intro _
  refine W.seqE hT2 mixed M_f8 (by kernel_rfl) ?_
  simp [hsm, hsp]
  have hck : SChkT [.rd 5 (hRows b)] = some ⟨.int .i64 (chkT b), []⟩ := by simp only [SChkT, hRows_parse]; rw [if_pos jb]
  have hsb : SShp [.rd 5 (hRows b), .rd 5 (hRows a)] = some ⟨.bool (shpB b a), []⟩ := by
    simp only [SShp, hRows_parse]; rw [if_pos ⟨jb.2, ja.2⟩]
  refine W.cut True [(0, .rd 5 (hRows a)), (1, .rd 5 (hRows b)), (5, .bool true), (6, .rd 5 (hRows c)), (12, .bool (belB a b))] [] 190 ?_ ?_
  · refine W.of_WE hT3 mixed M_f8 _ (by kernel_rfl) ?_
    by_cases hb0 : chkT b = 0
    · have hsn : SSnd [.rd 5 (hRows b)] = some ⟨.bool (!(b.any (excT (trL b)))), []⟩ := by
        simp only [SSnd, hRows_parse]; rw [if_pos ⟨jb, hb0⟩]
      cases hs : shpB b a
      · rw [hs] at hsb
        simp [hck, hb0, hsb, belB, hs]
      · rw [hs] at hsb
        simp [hck, hb0, hsb, hsn, belB, hs]
    · simp [hck, hb0, belB]
  intro _
  obtain ⟨Q, hQ⟩ : ∃ Q : Bool, Q = (belB a b && (List.range a.length).all fun i => contR (a.getD i HD0).r (b.getD i HD0).r) := ⟨_, rfl⟩
  have hbel : belB a b = true → chkT b = 0 ∧ shpB b a = true ∧ b.any (excT (trL b)) = false := fun h => by
    unfold belB at h
    simp only [Bool.and_eq_true, decide_eq_true_eq, Bool.not_eq_true'] at h
    exact ⟨h.1.1, h.1.2, h.2⟩
  have hla := ja.2
  refine W.cut True [(0, .rd 5 (hRows a)), (1, .rd 5 (hRows b)), (5, .bool true), (6, .rd 5 (hRows c)), (12, .bool Q)] [] 190 ?_ ?_
  · refine W.seqE hT4 mixed M_f8 (by kernel_rfl) ?_
    simp
    refine W.block (W.for (fun _ => True) (fun k => [(0, .rd 5 (hRows a)), (1, .rd 5 (hRows b)), (5, .bool true), (6, .rd 5 (hRows c)), (12, .bool (belB a b && (List.range k).all fun i => contR (a.getD i HD0).r (b.getD i HD0).r)), (13, .int .i64 k)]) (fun _ => []) 190 a.length trivial ?_ ?_)
    · simp
    · intro k hk _
      by_cases hlt : k < a.length
      · have hw1 : IntKind.i64.wrap ((k : Int) + 1) = k + 1 := wr_i64 (by omega) (by omega)
        cases hb : (belB a b && (List.range k).all fun i => contR (a.getD i HD0).r (b.getD i HD0).r)
        case false =>
          have hq : Q = false := by
            rw [hQ]
            rw [Bool.and_eq_false_iff] at hb ⊢
            rcases hb with h | h
            · exact .inl h
            · right
              rw [List.all_eq_false] at h ⊢
              obtain ⟨x, hx, h⟩ := h
              exact ⟨x, List.mem_range.2 (by have := List.mem_range.1 hx; omega), h⟩
          refine W.of_WE hT4 mixed M_f8 _ (by kernel_rfl) ?_
          simp [hlt, hq]
        case true =>
          obtain ⟨hb1, hb2⟩ := Bool.and_eq_true_iff.1 hb
          obtain ⟨hbc, hbs, hbe⟩ := hbel hb1
          have hlb : k < b.length := by have := shp_len hbs; omega
          have hc1 := cont_ok (okT ja hz hlt) (okT jb hbc hlb)
          have hsn : (belB a b && (List.range (k + 1)).all fun i => contR (a.getD i HD0).r (b.getD i HD0).r) = contR a[k].r b[k].r := by
            rw [List.range_succ, List.all_append, hb2, hb1, ← hd_get hlt, ← hd_get hlb]
            simp
          rw [hd_get hlt, hd_get hlb] at hc1
          simp only [RS.cells] at hc1
          rw [hsn]
          refine W.of_WE hT4 mixed M_f8 _ (by kernel_rfl) ?_
          simp [hlt, hlb, HD.row, hc1, hw1]
      · have : k = a.length := by omega
        subst this
        rw [← hQ]
        refine W.of_WE hT4 mixed M_f8 _ (by kernel_rfl) ?_
        simp
  intro _
  have hQt : Q = true → ∀ i, i < a.length → i < b.length ∧ okR (b.getD i HD0).r ∧ leR (b.getD i HD0).r (R i) := fun h i hi => by
    rw [hQ, Bool.and_eq_true, List.all_eq_true] at h
    obtain ⟨h1, h2⟩ := h
    obtain ⟨hbc, hbs, hbe⟩ := hbel h1
    have hl := shp_len hbs
    refine ⟨by omega, okT jb hbc (by omega), C.great jb hbc hbs hbe (fun x hx => ?_) _ i hi rfl⟩
    exact (cont_iff (okT ja hz hx) (okT jb hbc (by omega))).1 (h2 x (List.mem_range.2 hx))
  refine W.cut True [(5, .bool true)] [] 190 ?_ ?_
  · refine W.seqE hT4 mixed M_f8 (by kernel_rfl) ?_
    simp
    refine W.block (W.for (fun _ => True) (fun k => [(0, .rd 5 (hRows a)), (1, .rd 5 (hRows b)), (5, .bool true), (6, .rd 5 (hRows c)), (12, .bool Q), (16, .int .i64 k)]) (fun _ => []) 190 a.length trivial ?_ ?_)
    · simp
    · intro k hk _
      by_cases hlt : k < a.length
      · have hw1 : IntKind.i64.wrap ((k : Int) + 1) = k + 1 := wr_i64 (by omega) (by omega)
        have hlc : k < c.length := by omega
        have oa := okT ja hz hlt
        have oc := C.ok k hlt
        have hc1 := cont_ok oa oc
        rw [(cont_iff oa oc).2 (C.less hlt), hd_get hlt] at hc1
        have hc2 := same_ok oa oc
        have hpe : a[k].p = .empty → sameR (a.getD k HD0).r (R k) = true := fun e => by
          rw [C.one k hlt (by rw [hd_get hlt, e]; exact name_ne hz)]
          exact (same_iff oa oa).2 fun _ _ _ => Iff.rfl
        rw [hd_get hlt] at hc2 hpe
        have hck := hcg k hlt hlc
        rw [← hck] at hc1 hc2 hpe
        simp only [RS.cells] at hc1 hc2
        refine W.seqE hT4 mixed M_f8 (by kernel_rfl) ?_
        simp [hlt]
        refine W.cut True [(0, .rd 5 (hRows a)), (1, .rd 5 (hRows b)), (5, .bool true), (6, .rd 5 (hRows c)), (12, .bool Q), (16, .int .i64 k)] [] 190 ?_ ?_
        · refine W.block ?_
          refine W.cut True [(0, .rd 5 (hRows a)), (1, .rd 5 (hRows b)), (5, .bool true), (6, .rd 5 (hRows c)), (12, .bool Q), (16, .int .i64 k), (17, .bool true), (18, .int .i64 0)] [] 190 ?_ ?_
          · refine W.of_WE hT4 mixed M_f8 _ (by kernel_rfl) ?_
            simp [hlt, hlc, HD.row, hc1]
          intro _
          refine W.cut True [(0, .rd 5 (hRows a)), (1, .rd 5 (hRows b)), (5, .bool true), (6, .rd 5 (hRows c)), (12, .bool Q), (16, .int .i64 k)] [] 190 ?_ ?_
          · refine W.of_WE hT4 mixed M_f8 _ (by kernel_rfl) ?_
            by_cases hpp : a[k].p = .empty
            · rw [hpe hpp] at hc2
              simp [hlt, hlc, HD.row, hpp, emp_nil, hc2]
            · have hpl := emp_ne hpp
              simp [hlt, hlc, HD.row, hpl]
          intro _
          cases hq : Q
          case false =>
            refine W.of_WE hT4 mixed M_f8 _ (by kernel_rfl) ?_
            simp
          case true =>
            obtain ⟨hlb, ob, hle⟩ := hQt hq k hlt
            have hc3 := cont_ok oc ob
            rw [(cont_iff oc ob).2 hle, ← hck, hd_get hlb] at hc3
            simp only [RS.cells] at hc3
            refine W.of_WE hT4 mixed M_f8 _ (by kernel_rfl) ?_
            simp [hlb, hlc, HD.row, hc3]
        intro _
        refine W.of_WE hT4 mixed M_f8 _ (by kernel_rfl) ?_
        simp [hw1]
      · have : k = a.length := by omega
        subst this
        refine W.of_WE hT4 mixed M_f8 _ (by kernel_rfl) ?_
        simp
  intro _
  refine W.of_WE hT4 mixed M_f8 _ (by kernel_rfl) ?_
  simp

end Go.Proofs.Ytkcmgjagjbiinaa.AL
