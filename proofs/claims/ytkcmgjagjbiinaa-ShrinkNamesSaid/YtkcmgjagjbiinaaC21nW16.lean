import Derived.Test.YtkcmgjagjbiinaaC21nW15
/- What single functions compute: a part of the proof; no conditions. -/
set_option linter.unusedVariables false
set_option linter.unusedSimpArgs false
set_option maxRecDepth 100000
set_option linter.unusedSectionVars false
namespace Go.Proofs.Ytkcmgjagjbiinaa.AL
open Go
attribute [local simp] qf cv qbin ibin sbin qun retPost rvOk ctV ctPost marksOk retV resAll resOf V.lt ltL V.ren renL V.exp V.exp1 cleanL V.clean closedL V.closed V.cells V.one V.tree
  loadV cellsAt isNC nilQ isSlD isIfD slNew ownRows ownCells V.isOwn slStore srcO qlook mlook mget mstr zval qnone qmake mput lmap isAggD placesOf fillV putCells lstore bound seqParts V.sh shL Blk.sh newV V.ok peqs peq srcRows qbytes byteSl appOk mmV mmR hidE V.fz fzL Blk.fz fzOk and_assoc
attribute [-simp] Int.not_le Int.not_lt Nat.not_le Nat.not_lt
theorem same_ok {a b : RS} (ha : okR a) (hb : okR b) : SSameR [.agg a.cells, .agg b.cells] = some ⟨.bool (sameR a b), []⟩ := by
  simp only [SSameR, rsOf_cells]
  rw [if_pos ⟨okR_len ha, okR_len hb⟩]
/-- Is the other tree a sound one of this shape? -/
def belB (l o : List HD) : Bool := decide (chkT o = 0) && shpB o l && !(o.any (excT (trL o)))
def M_f8 : Md := fun i => if i = 15 then some #[0, 0, 3, 7, 15, 0, 0, 96, 224, 480, 1023, 2047, 4095, 4095, 8191, 32767] else if i = 20 then some #[0, 0, 3, 7, 15, 0, 0, 96, 224, 480, 1023, 2047, 4095, 4095, 8191, 32767] else if i = 21 then some #[0, 1, 3, 7, 15, 31, 63, 127, 127, 511, 1023, 2047, 4095, 8191, 16383, 16383, 65535, 131071, 262143, 16383, 16383, 1589247, 3686399, 7880703, 16777215, 33554431, 67108863, 134217727] else if i = 24 then some #[0, 0, 3, 7, 15, 0, 0, 96, 224, 480, 1023, 2047, 4095, 4095, 8191, 32767] else some #[]
@[simp] theorem M_f8_eq {i : Nat} : M_f8 i = (if i = 15 then some #[0, 0, 3, 7, 15, 0, 0, 96, 224, 480, 1023, 2047, 4095, 4095, 8191, 32767] else if i = 20 then some #[0, 0, 3, 7, 15, 0, 0, 96, 224, 480, 1023, 2047, 4095, 4095, 8191, 32767] else if i = 21 then some #[0, 1, 3, 7, 15, 31, 63, 127, 127, 511, 1023, 2047, 4095, 8191, 16383, 16383, 65535, 131071, 262143, 16383, 16383, 1589247, 3686399, 7880703, 16777215, 33554431, 67108863, 134217727] else if i = 24 then some #[0, 0, 3, 7, 15, 0, 0, 96, 224, 480, 1023, 2047, 4095, 4095, 8191, 32767] else some #[]) := rfl
theorem shrinkClips_runs : ∀ As, ArgsV Try.prog Try.f8.params.toList [[.sl [.str, .str, .sl [.int .u64, .int .u64, .int .u64, .int .u64], .sl [.int .u64, .int .u64, .int .u64, .int .u64], .sl [.int .u32, .int .u32]]], [.sl [.str, .str, .sl [.int .u64, .int .u64, .int .u64, .int .u64], .sl [.int .u64, .int .u64, .int .u64, .int .u64], .sl [.int .u32, .int .u32]]]] As → Runs Try.prog 8 As ⟨.bool true, []⟩ := by
  intro As h
  obtain ⟨a, ia, b, ib, rfl⟩ : ∃ a : List HD, (∀ h ∈ a, inRS h.r) ∧ ∃ b : List HD, (∀ h ∈ b, inRS h.r) ∧ As = [.rd 5 (hRows a), .rd 5 (hRows b)] := by
    simp only [Try.f8, ArgsV] at h
    obtain ⟨_, _, V1, _, e1, rfl, h1, _, _, V2, _, e2, rfl, h2, rfl, rfl⟩ := h
    simp only [List.cons.injEq] at e1
    obtain ⟨rfl, rfl⟩ := e1
    simp only [List.cons.injEq] at e2
    obtain ⟨rfl, _⟩ := e2
    obtain ⟨a, rfl, ia⟩ := hl_of_shape h1
    obtain ⟨b, rfl, ib⟩ := hl_of_shape h2
    exact ⟨a, ia, b, ib, by simp [argV]⟩
  have gA := grL_at a
  have gB := grL_at b
  have ho := aliveS
  have hT : ((T0.add 21 (oneS [] ⟨.bool true, []⟩)).add 10 SGrL).ok Try.prog :=
    Tab.add_ok (Tab.add_ok (T0_ok _) (oneS_ok runs_law21_alive)) runs_ref21_Great
  have hT2 : ((((T0.add 16 SClip).add 27 SExcs).add 18 SSmT).add 33 SShp).ok Try.prog :=
    Tab.add_ok (Tab.add_ok (Tab.add_ok (Tab.add_ok (T0_ok _) runs_shrink_Clip) runs_shrink_Excess) runs_ref21_Same) runs_ref21_Shape
  have hT3 : (((T0.add 32 SChkT).add 34 SSnd).add 33 SShp).ok Try.prog :=
    Tab.add_ok (Tab.add_ok (Tab.add_ok (T0_ok _) runs_ref21_Check) runs_ref21_Sound) runs_ref21_Shape
  have hT4 : ((T0.add 25 SCont).add 35 SSameR).ok Try.prog :=
    Tab.add_ok (Tab.add_ok (T0_ok _) runs_resource_Contains) runs_resource_Same
  refine Runs.of_body Try.func8 (by decide) rfl (by simp [Try.f8]) ?_
  refine W.seqE hT mixed M_f8 (by kernel_rfl) ?_
  simp [Try.f8]
  refine W.cut True [(0, .rd 5 (hRows a)), (1, .rd 5 (hRows b)), (5, .bool true)] [] 190 ?_ ?_
  · refine W.of_WE hT mixed M_f8 _ (by kernel_rfl) ?_
    simp [ho]
  intro _
  cases ga : grtL a
  case true =>
    rw [ga] at gA
    refine W.of_WE hT mixed M_f8 _ (by kernel_rfl) ?_
    simp [gA]
  case false =>
  rw [ga] at gA
  cases gb : grtL b
  case true =>
    rw [gb] at gB
    refine W.of_WE hT mixed M_f8 _ (by kernel_rfl) ?_
    simp [gA, gB]
  case false =>
  rw [gb] at gB
  obtain ⟨ja, sa⟩ := dom_of ga ia
  obtain ⟨jb, sb⟩ := dom_of gb ib
  refine W.seqE hT mixed M_f8 (by kernel_rfl) ?_
  simp [gA, gB]
  have hp := clip_at ja
  by_cases hz : chkT a = 0
  case neg =>
    rw [if_pos hz] at hp
    refine W.cut True [(5, .bool true), (6, .nils), (7, .int .i64 (chkT a))] [] 190 ?_ ?_
    · refine W.of_WE hT2 mixed M_f8 _ (by kernel_rfl) ?_
      simp [hp]
    intro _
    refine W.of_WE hT2 mixed M_f8 _ (by kernel_rfl) ?_
    simp [hz]
  case pos =>
  rw [if_neg (by simpa using hz)] at hp
  cases hcl : clipF a (downL a false) with
  | none =>
    rw [hcl] at hp
    simp only at hp
    refine W.cut True [(5, .bool true), (6, .nils), (7, .int .i64 4)] [] 190 ?_ ?_
    · refine W.of_WE hT2 mixed M_f8 _ (by kernel_rfl) ?_
      simp [hp]
    intro _
    refine W.of_WE hT2 mixed M_f8 _ (by kernel_rfl) ?_
    simp
  | some R =>
  rw [hcl] at hp
  simp only at hp
  have C := clp_of ja hz hcl
  have he := C.exc
  have hag := C.again
  have hcin := C.inl
  obtain ⟨c, hc⟩ : ∃ c, c = trX a R := ⟨_, rfl⟩
  have hcl2 : c.length = a.length := by rw [hc]; simp
  have hcg : ∀ i (h : i < a.length) (h2 : i < c.length), c[i].r = R i := fun i h h2 => by
    have := trX_get (R := R) h
    rw [← hc, hd_get h2] at this
    rw [this]
  have hsm : SSmT [.rd 5 (hRows c), .rd 5 (hRows c)] = some ⟨.bool true, []⟩ := by
    simp only [SSmT, hRows_parse]
    rw [if_pos ⟨fun h hm => (hcin.1 h (hc ▸ hm)).2.2, fun h hm => (hcin.1 h (hc ▸ hm)).2.2, by rw [hcl2]; exact ja.2, by rw [hcl2]; exact ja.2⟩, samT_self]
  have hsp : SShp [.rd 5 (hRows c), .rd 5 (hRows a)] = some ⟨.bool true, []⟩ := by
    simp only [SShp, hRows_parse]
    rw [if_pos ⟨by rw [hcl2]; exact ja.2, ja.2⟩, hc, C.shp]
  rw [← hc] at hp he hag hcin
  refine W.cut True [(0, .rd 5 (hRows a)), (1, .rd 5 (hRows b)), (5, .bool true), (6, .rd 5 (hRows c)), (7, .int .i64 0)] [] 190 ?_ ?_
  · refine W.of_WE hT2 mixed M_f8 _ (by kernel_rfl) ?_
    simp [hp]
  intro _
  refine W.seqE hT2 mixed M_f8 (by kernel_rfl) ?_
  simp
  refine W.cut True [(0, .rd 5 (hRows a)), (1, .rd 5 (hRows b)), (5, .bool true), (6, .rd 5 (hRows c)), (8, .rd 1 []), (9, .int .i64 0)] [] 190 ?_ ?_
  · refine W.of_WE hT2 mixed M_f8 _ (by kernel_rfl) ?_
    simp [he]
  intro _
  refine W.cut True [(0, .rd 5 (hRows a)), (1, .rd 5 (hRows b)), (5, .bool true), (6, .rd 5 (hRows c)), (8, .rd 1 []), (9, .int .i64 0), (10, .rd 5 (hRows c)), (11, .int .i64 0)] [] 190 ?_ ?_
  · refine W.of_WE hT2 mixed M_f8 _ (by kernel_rfl) ?_
    simp [hag]
  intro _
  refine W.seqE hT2 mixed M_f8 (by kernel_rfl) ?_
  simp [hsm, hsp]
  have hck : SChkT [.rd 5 (hRows b)] = some ⟨.int .i64 (chkT b), []⟩ := by simp only [SChkT, hRows_parse]; rw [if_pos jb]
  have hsb : SShp [.rd 5 (hRows b), .rd 5 (hRows a)] = some ⟨.bool (shpB b a), []⟩ := by
    simp only [SShp, hRows_parse]; rw [if_pos ⟨jb.2, ja.2⟩]
  refine W.cut True [(0, .rd 5 (hRows a)), (1, .rd 5 (hRows b)), (5, .bool true), (6, .rd 5 (hRows c)), (12, .bool (belB a b))] [] 190 ?_ ?_
  · refine W.of_WE hT3 mixed M_f8 _ (by kernel_rfl) ?_
    by_cases hb0 : chkT b = 0
    · have hsn : SSnd [.rd 5 (hRows b)] = some ⟨.bool (!(b.any (excT (trL b)))), []⟩ := by
        simp only [SSnd, hRows_parse]; rw [if_pos ⟨jb, hb0⟩]
      cases hs : shpB b a
      · rw [hs] at hsb
        simp [hck, hb0, hsb, belB, hs]
      · rw [hs] at hsb
        simp [hck, hb0, hsb, hsn, belB, hs]
    · simp [hck, hb0, belB]
  intro _
  obtain ⟨Q, hQ⟩ : ∃ Q : Bool, Q = (belB a b && (List.range a.length).all fun i => contR (a.getD i HD0).r (b.getD i HD0).r) := ⟨_, rfl⟩
  have hbel : belB a b = true → chkT b = 0 ∧ shpB b a = true ∧ b.any (excT (trL b)) = false := fun h => by
    unfold belB at h
    simp only [Bool.and_eq_true, decide_eq_true_eq, Bool.not_eq_true'] at h
    exact ⟨h.1.1, h.1.2, h.2⟩
  have hla := ja.2
  refine W.cut True [(0, .rd 5 (hRows a)), (1, .rd 5 (hRows b)), (5, .bool true), (6, .rd 5 (hRows c)), (12, .bool Q)] [] 190 ?_ ?_
  · refine W.seqE hT4 mixed M_f8 (by kernel_rfl) ?_
    simp
    refine W.block (W.for (fun _ => True) (fun k => [(0, .rd 5 (hRows a)), (1, .rd 5 (hRows b)), (5, .bool true), (6, .rd 5 (hRows c)), (12, .bool (belB a b && (List.range k).all fun i => contR (a.getD i HD0).r (b.getD i HD0).r)), (13, .int .i64 k)]) (fun _ => []) 190 a.length trivial ?_ ?_)
    · simp
    · intro k hk _
      by_cases hlt : k < a.length
      · have hw1 : IntKind.i64.wrap ((k : Int) + 1) = k + 1 := wr_i64 (by omega) (by omega)
        cases hb : (belB a b && (List.range k).all fun i => contR (a.getD i HD0).r (b.getD i HD0).r)
        case false =>
          have hq : Q = false := by
            rw [hQ]
            rw [Bool.and_eq_false_iff] at hb ⊢
            rcases hb with h | h
            · exact .inl h
            · right
              rw [List.all_eq_false] at h ⊢
              obtain ⟨x, hx, h⟩ := h
              exact ⟨x, List.mem_range.2 (by have := List.mem_range.1 hx; omega), h⟩
          refine W.of_WE hT4 mixed M_f8 _ (by kernel_rfl) ?_
          simp [hlt, hq]
        case true =>
          obtain ⟨hb1, hb2⟩ := Bool.and_eq_true_iff.1 hb
          obtain ⟨hbc, hbs, hbe⟩ := hbel hb1
          have hlb : k < b.length := by have := shp_len hbs; omega
          have hc1 := cont_ok (okT ja hz hlt) (okT jb hbc hlb)
          have hsn : (belB a b && (List.range (k + 1)).all fun i => contR (a.getD i HD0).r (b.getD i HD0).r) = contR a[k].r b[k].r := by
            rw [List.range_succ, List.all_append, hb2, hb1, ← hd_get hlt, ← hd_get hlb]
            simp
          rw [hd_get hlt, hd_get hlb] at hc1
          simp only [RS.cells] at hc1
          rw [hsn]
          refine W.of_WE hT4 mixed M_f8 _ (by kernel_rfl) ?_
          simp [hlt, hlb, HD.row, hc1, hw1]
      · have : k = a.length := by omega
        subst this
        rw [← hQ]
        refine W.of_WE hT4 mixed M_f8 _ (by kernel_rfl) ?_
        simp
  intro _
  have hQt : Q = true → ∀ i, i < a.length → i < b.length ∧ okR (b.getD i HD0).r ∧ leR (b.getD i HD0).r (R i) := fun h i hi => by
    rw [hQ, Bool.and_eq_true, List.all_eq_true] at h
    obtain ⟨h1, h2⟩ := h
    obtain ⟨hbc, hbs, hbe⟩ := hbel h1
    have hl := shp_len hbs
    refine ⟨by omega, okT jb hbc (by omega), C.great jb hbc hbs hbe (fun x hx => ?_) _ i hi rfl⟩
    exact (cont_iff (okT ja hz hx) (okT jb hbc (by omega))).1 (h2 x (List.mem_range.2 hx))
  refine W.cut True [(5, .bool true)] [] 190 ?_ ?_
  · refine W.seqE hT4 mixed M_f8 (by kernel_rfl) ?_
    simp
    refine W.block (W.for (fun _ => True) (fun k => [(0, .rd 5 (hRows a)), (1, .rd 5 (hRows b)), (5, .bool true), (6, .rd 5 (hRows c)), (12, .bool Q), (16, .int .i64 k)]) (fun _ => []) 190 a.length trivial ?_ ?_)
    · simp
    · intro k hk _
      by_cases hlt : k < a.length
      · have hw1 : IntKind.i64.wrap ((k : Int) + 1) = k + 1 := wr_i64 (by omega) (by omega)
        have hlc : k < c.length := by omega
        have oa := okT ja hz hlt
        have oc := C.ok k hlt
        have hc1 := cont_ok oa oc
        rw [(cont_iff oa oc).2 (C.less hlt), hd_get hlt] at hc1
        have hc2 := same_ok oa oc
        have hpe : a[k].p = .empty → sameR (a.getD k HD0).r (R k) = true := fun e => by
          rw [C.one k hlt (by rw [hd_get hlt, e]; exact name_ne hz)]
          exact (same_iff oa oa).2 fun _ _ _ => Iff.rfl
        rw [hd_get hlt] at hc2 hpe
        have hck := hcg k hlt hlc
        rw [← hck] at hc1 hc2 hpe
        simp only [RS.cells] at hc1 hc2
        refine W.seqE hT4 mixed M_f8 (by kernel_rfl) ?_
        simp [hlt]
        refine W.cut True [(0, .rd 5 (hRows a)), (1, .rd 5 (hRows b)), (5, .bool true), (6, .rd 5 (hRows c)), (12, .bool Q), (16, .int .i64 k)] [] 190 ?_ ?_
        · refine W.block ?_
          refine W.cut True [(0, .rd 5 (hRows a)), (1, .rd 5 (hRows b)), (5, .bool true), (6, .rd 5 (hRows c)), (12, .bool Q), (16, .int .i64 k), (17, .bool true), (18, .int .i64 0)] [] 190 ?_ ?_
          · refine W.of_WE hT4 mixed M_f8 _ (by kernel_rfl) ?_
            simp [hlt, hlc, HD.row, hc1]
          intro _
          refine W.cut True [(0, .rd 5 (hRows a)), (1, .rd 5 (hRows b)), (5, .bool true), (6, .rd 5 (hRows c)), (12, .bool Q), (16, .int .i64 k)] [] 190 ?_ ?_
          · refine W.of_WE hT4 mixed M_f8 _ (by kernel_rfl) ?_
            by_cases hpp : a[k].p = .empty
            · rw [hpe hpp] at hc2
              simp [hlt, hlc, HD.row, hpp, emp_nil, hc2]
            · have hpl := emp_ne hpp
              simp [hlt, hlc, HD.row, hpl]
          intro _
          cases hq : Q
          case false =>
            refine W.of_WE hT4 mixed M_f8 _ (by kernel_rfl) ?_
            simp
          case true =>
            obtain ⟨hlb, ob, hle⟩ := hQt hq k hlt
            have hc3 := cont_ok oc ob
            rw [(cont_iff oc ob).2 hle, ← hck, hd_get hlb] at hc3
            simp only [RS.cells] at hc3
            refine W.of_WE hT4 mixed M_f8 _ (by kernel_rfl) ?_
            simp [hlb, hlc, HD.row, hc3]
        intro _
        refine W.of_WE hT4 mixed M_f8 _ (by kernel_rfl) ?_
        simp [hw1]
      · have : k = a.length := by omega
        subst this
        refine W.of_WE hT4 mixed M_f8 _ (by kernel_rfl) ?_
        simp
  intro _
  refine W.of_WE hT4 mixed M_f8 _ (by kernel_rfl) ?_
  simp

end Go.Proofs.Ytkcmgjagjbiinaa.AL
namespace Go.Proofs.Ytkcmgjagjbiinaa.AL
open Go
/-! The trees of ShrinkNames. -/
def okK (l : List HD) (i : Nat) : Bool := nameS (l.getD i HD0).n && (decide (chkR (l.getD i HD0).r = 0) && (decide (i = 0) || Op.bytesLess (l.getD (i - 1) HD0).n.data.toList (l.getD i HD0).n.data.toList))
theorem okN_K (l : List HD) : okN l = okK l := by
  funext i
  unfold okN okK bls
  rw [ByteArray.toList_eq, ByteArray.toList_eq]
def chkK (l : List HD) : Int := if 30 < l.length then 4 else if lead (okK l) l.length < l.length then 8 else if lead (okD l) l.length < l.length then 8 else 0
theorem chkT_K (l : List HD) : chkT l = chkK l := by
  unfold chkT opnE chkK
  rw [okN_K]
  split
  · rfl
  · split
    · rfl
    · split <;> rfl
def nmI (i : Nat) : ByteArray := ⟨#[104, UInt8.ofNat (48 + i / 10), UInt8.ofNat (48 + i % 10)]⟩
def manyL (n : Nat) : List HD := (List.range n).map fun i => ⟨nmI i, .empty, RS0⟩
def chainL (k : Nat) : List HD := (List.range 30).map fun i => ⟨nmI i, if 1 ≤ i ∧ i ≤ k then nmI (i - 1) else .empty, RS0⟩
def loopL : List HD := (chainL 29).set 0 ⟨nmI 0, nmI 29, RS0⟩
def bA : ByteArray := ⟨#[97]⟩
def bB : ByteArray := ⟨#[98]⟩
def bads : List (List HD) := [[⟨.empty, .empty, RS0⟩], [⟨bA, bB, RS0⟩], [⟨bA, bA, RS0⟩], loopL, [⟨bB, .empty, RS0⟩, ⟨bA, .empty, RS0⟩], [⟨bA, .empty, RS0⟩, ⟨bA, .empty, RS0⟩], [⟨bA, .empty, asR 5 4⟩]]
theorem chk_many : chkT (manyL 31) = 4 := (chkT_K _).trans (by kernel_rfl)
theorem chk_chain : chkT (chainL 29) = 0 := (chkT_K _).trans (by kernel_rfl)
theorem chk_badsK : bads.map chkK = [8, 8, 8, 8, 8, 8, 8] := by kernel_rfl
theorem chk_bads : bads.map chkT = [8, 8, 8, 8, 8, 8, 8] := (List.map_congr_left fun l _ => chkT_K l).trans chk_badsK
def cC : ByteArray := ⟨#[99]⟩
def cR : ByteArray := ⟨#[114]⟩
def tr2 (x y : RS) : List HD := [⟨cC, cR, x⟩, ⟨cR, ⟨#[]⟩, y⟩]
def bigL : List HD := tr2 (asR 1 11) (asR 1 10)
theorem planE_K (a b : List HD) : planE a b = if chkK a ≠ 0 then chkK a else if chkK b ≠ 0 then chkK b else if shpB a b = false then 2 else if (a.any (excT (trL a)) || b.any (excT (trL b))) = true then 26 else 0 := by
  unfold planE
  rw [chkT_K, chkT_K]
  try rfl
theorem pl1 : planE (manyL 31) [] = 4 := (planE_K _ _).trans (by kernel_rfl)
theorem pl2 : planE exA [⟨.empty, .empty, RS0⟩] = 8 := (planE_K _ _).trans (by kernel_rfl)
theorem pl3 : planE exA (exA.drop 1) = 2 := (planE_K _ _).trans (by kernel_rfl)
theorem pl4 : planE bigL exB = 26 := (planE_K _ _).trans (by kernel_rfl)
theorem pl5 : planE exA bigL = 26 := (planE_K _ _).trans (by kernel_rfl)
theorem pl6 : planE exA exA = 0 ∧ planS exA exA = [] := ⟨(planE_K _ _).trans (by kernel_rfl), by kernel_rfl⟩
theorem pl7 : planE [] [] = 0 ∧ planS [] [] = [] := ⟨(planE_K _ _).trans (by kernel_rfl), by kernel_rfl⟩
theorem ck_big : chkT bigL = 0 := (chkT_K _).trans (by kernel_rfl)
theorem ex_big : nmsL (excL bigL) = [cC] := by kernel_rfl
theorem appT_K (l : List HD) (n : ByteArray) (r : RS) : appT l n r = if chkK l ≠ 0 then .error (chkK l) else if chkR r ≠ 0 then .error 8 else match plc (nmsL l) n with
    | none => .error 6
    | some i => if excT ⟨setR l i r, nmsL l, depRows l l.length⟩ ((setR l i r).getD i HD0) || (setR l i r).any (fun h => decide (h.p = n) && excT ⟨setR l i r, nmsL l, depRows l l.length⟩ h) then .error 26
      else .ok (setR l i r) := by
  unfold appT
  (rw [chkT_K]) <;> rfl
theorem ap1 : appT exA ⟨#[120]⟩ RS0 = .error 6 := (appT_K _ _ _).trans (by kernel_rfl)
theorem ap2 : appT exA cC (asR 2 1) = .error 8 := (appT_K _ _ _).trans (by kernel_rfl)
theorem ap3 : appT exA cC (asR 1 11) = .error 26 := (appT_K _ _ _).trans (by kernel_rfl)
theorem ap4 : appT exA cR (asR 1 4) = .error 26 := (appT_K _ _ _).trans (by kernel_rfl)
theorem ap5 : appT exA cR (asR 1 5) = .ok (tr2 (asR 1 5) (asR 1 5)) := (appT_K _ _ _).trans (by kernel_rfl)
theorem clip_big : ∃ R, clipF bigL (downL bigL false) = some R ∧ trX bigL R = tr2 (asR 1 10) (asR 1 10) := by
  have h : (clipF bigL (downL bigL false)).map (trX bigL) = some (tr2 (asR 1 10) (asR 1 10)) := by kernel_rfl
  cases hc : clipF bigL (downL bigL false) with
  | none => rw [hc] at h; cases h
  | some R => rw [hc] at h; exact ⟨R, rfl, by simpa using h⟩
theorem in_many : inL (manyL 31) := by decide +kernel
theorem in_chain : inL (chainL 29) := by decide +kernel
theorem in_bads : ∀ l ∈ bads, inL l := by decide +kernel
theorem in_big : inL bigL := by decide +kernel
theorem in_ex1 : inL (exA.drop 1) := by decide +kernel
theorem sm_ex : small exA ∧ small exB ∧ small bigL ∧ small (exA.drop 1) := by
  refine ⟨?_, ?_, ?_, ?_⟩ <;> decide +kernel
/-- The name of one holder, as the program makes it. -/
def nmD (k : Nat) : ByteArray := ⟨#[UInt8.ofNat (48 + k / 10), UInt8.ofNat (48 + k % 10)]⟩
theorem nmD_size (k : Nat) : (nmD k).size = 2 := rfl
theorem nm_at : ∀ k : Nat, k < 31 → strR [[.int .u8 (IntKind.u8.wrap (IntKind.i64.wrap (48 + IntKind.i64.wrap (((k : Nat) : Int) / 10))))], [.int .u8 (IntKind.u8.wrap (IntKind.i64.wrap (48 + ((k : Nat) : Int).tmod 10)))]] = nmD k := by
  have h : ∀ k : Fin 31, strR [[.int .u8 (IntKind.u8.wrap (IntKind.i64.wrap (48 + IntKind.i64.wrap (((k : Nat) : Int) / 10))))], [.int .u8 (IntKind.u8.wrap (IntKind.i64.wrap (48 + ((k : Nat) : Int).tmod 10)))]] = nmD k := by decide +kernel
  exact fun k hk => h ⟨k, hk⟩
theorem sz_h : (⟨#[104]⟩ : ByteArray).size = 1 := rfl
theorem nm_cat (k : Nat) : (⟨#[104]⟩ : ByteArray) ++ nmD k = nmI k := rfl
theorem hRows_tree (l : List HD) : ∀ r ∈ hRows l, r.length = 5 ∧ ∀ c ∈ r, c.tree = true := by
  intro r hr
  obtain ⟨h, _, rfl⟩ := List.mem_map.1 hr
  refine ⟨rfl, fun c hc => ?_⟩
  simp only [HD.row, RS.cells, List.mem_cons, List.not_mem_nil, or_false] at hc
  rcases hc with rfl | rfl | rfl | rfl | rfl <;> rfl
@[simp] theorem chain_len (k : Nat) : (chainL k).length = 30 := by simp [chainL]
theorem chain_el (k j : Nat) (h : j < (chainL k).length) : (chainL k)[j] = ⟨nmI j, if 1 ≤ j ∧ j ≤ k then nmI (j - 1) else .empty, RS0⟩ := by simp [chainL]
def hR (n p : ByteArray) : List V := [.str n, .str p, .rd 4 [], .rd 4 [], .rd 2 []]
theorem chain_set {k : Nat} (hk : k < 29) : (hRows (chainL k)).set (k + 1) (hR (nmI (k + 1)) (nmI k)) = hRows (chainL (k + 1)) := by
  refine List.ext_getElem (by simp) fun j h1 h2 => ?_
  have hj : j < 30 := by simpa using h2
  rw [List.getElem_set]
  simp only [hRows_getElem, chain_el, HD.row, RS.cells, RS0, sRows, aRows, List.map_nil, hR]
  by_cases e : k + 1 = j
  · subst e
    rw [if_pos rfl, if_pos (by omega)]
    rfl
  · rw [if_neg e]
    by_cases g : 1 ≤ j ∧ j ≤ k
    · rw [if_pos g, if_pos (by omega)]
    · rw [if_neg g, if_neg (by omega)]
theorem chain_0 : List.take 30 (hRows (manyL 31)) = hRows (chainL 0) := by kernel_rfl
theorem loop_set : (hRows (chainL 29)).set 0 (hR (nmI 0) (nmI 29)) = hRows loopL := by kernel_rfl
theorem len_chain (k : Nat) : lenL (chainL k) := by
  refine ⟨by simp, fun h hm => ?_⟩
  obtain ⟨i, _, rfl⟩ := List.mem_map.1 hm
  simp [lenRS, RS0]
/-! Nil slices are empty ones. -/
def nRow (x : ByteArray × ByteArray) : List V := [.str x.1, .str x.2, .nils, .nils, .nils]
def nHD (x : ByteArray × ByteArray) : HD := ⟨x.1, x.2, RS0⟩
theorem RL.nil_rows {E : Env} : ∀ (L : List (ByteArray × ByteArray)) {vs : List Value}, RL E (L.map nRow).flatten vs → RL E (hRows (L.map nHD)).flatten vs
  | [], vs, h => h
  | x :: L, vs, h => by
    simp only [List.map_cons, List.flatten_cons, nRow, List.cons_append, List.nil_append, RL] at h
    obtain ⟨v1, w1, rfl, h1, v2, w2, rfl, h2, v3, w3, rfl, h3, v4, w4, rfl, h4, v5, w5, rfl, h5, h⟩ := h
    have := RL.nil_rows L h
    simp only [List.map_cons, hRows, List.map_cons, HD.row, nHD, RS0, RS.cells, sRows, aRows, List.map_nil, List.flatten_cons, List.cons_append, List.nil_append, RL]
    exact ⟨v1, _, rfl, h1, v2, _, rfl, h2, v3, _, rfl, R_nils_rd 4 h3, v4, _, rfl, R_nils_rd 4 h4, v5, _, rfl, R_nils_rd 2 h5, this⟩
section
variable {P : Program} [Gl P]
/-- The rows of a slice may be told more weakly. -/
theorem Wk.weakS {s : St} (b : Nat) {sz : Nat} {ty : TypeId} {rows : List (List V)} (rows' : List (List V)) (hb : s.hp b = some (.sl sz ty rows)) (hl : rows'.length = rows.length) (hu : ∀ r ∈ rows', r.length = sz ∧ ∀ c ∈ r, c.tree = true)
    (h : ∀ E vs, RL E rows.flatten vs → RL E rows'.flatten vs) : Wk P s (s.setB b (.sl sz ty rows')) := by
  intro X E a hs
  obtain ⟨hD, hB⟩ := hs.hp.blk b _ hb
  refine ⟨E, rfl, ⟨⟨⟨⟨fun y z hz => ?_, fun y y' z z' g hz hz' hg hg' => ?_⟩, hs.gl, hs.AO, hs.Fz, hs.OA, hs.Oz⟩, hs.top, hs.kp, hs.defers, hs.nt, hs.tm⟩, hs.nx⟩⟩
  · by_cases e : y = b
    · subst e
      simp only [St.setB, upd_same, Option.some.injEq] at hz
      subst hz
      refine ⟨hD, ?_⟩
      simp only [BRel] at hB ⊢
      rcases hB with ⟨vs, h1, h2, h3, h4, h5, h6⟩ | ⟨g1, g2⟩
      · exact .inl ⟨vs, by rw [hl]; exact h1, h _ _ h2, h3, h4, hu, h6⟩
      · refine .inr ⟨List.eq_nil_of_length_eq_zero (by rw [hl, g1]; rfl), g2⟩
    · simp only [St.setB, upd_other _ _ e] at hz
      exact hs.hp.blk y z hz
  · have key : ∀ y z, (upd s.hp b (some (.sl sz ty rows'))) y = some z → ∃ z0, s.hp y = some z0 := by
      intro y z hz
      by_cases e : y = b
      · subst e; exact ⟨_, hb⟩
      · rw [upd_other _ _ e] at hz; exact ⟨_, hz⟩
    obtain ⟨z0, h0⟩ := key y z hz
    obtain ⟨z1, h1⟩ := key y' z' hz'
    exact hs.hp.sep y y' z0 z1 g h0 h1 hg hg'
end
end Go.Proofs.Ytkcmgjagjbiinaa.AL
namespace Go.Proofs.Ytkcmgjagjbiinaa.AL
open Go
attribute [local simp] qf cv qbin ibin sbin qun retPost rvOk ctV ctPost marksOk retV resAll resOf V.lt ltL V.ren renL V.exp V.exp1 cleanL V.clean closedL V.closed V.cells V.one V.tree
  loadV cellsAt isNC nilQ isSlD isIfD slNew ownRows ownCells V.isOwn slStore srcO qlook mlook mget mstr zval qnone qmake mput lmap isAggD placesOf fillV putCells lstore bound seqParts V.sh shL Blk.sh newV V.ok peqs peq srcRows qbytes byteSl appOk mmV mmR hidE V.fz fzL Blk.fz fzOk and_assoc
attribute [-simp] Int.not_le Int.not_lt Nat.not_le Nat.not_lt
def STwO : List V → Option Res
  | [.rd 5 rows] => match hdsOf rows with
    | some l => if lenL l then some ⟨.own 0, [.sl 5 52 (hRows l)]⟩ else none
    | none => none
  | _ => none
theorem twO_at {l : List HD} (h : lenL l) : STwO [.rd 5 (hRows l)] = some ⟨.own 0, [.sl 5 52 (hRows l)]⟩ := by
  simp only [STwO, hRows_parse]; rw [if_pos h]
theorem runs_ref21_TwinO : ∀ args r, STwO args = some r → Runs Try.prog 12 args r := by
  intro args r hh
  unfold STwO at hh
  split at hh
  · rename_i rows
    split at hh
    · rename_i l hl
      split at hh
      · rename_i hin
        obtain ⟨hlen, hrs⟩ := hin
        have h1 := parse_eq hdOf_eq hl
        subst h1
        cases hh
        have hT : (T0.add 13 STwn).ok Try.prog := Tab.add_ok (T0_ok _) runs_ref03_TwinF
        refine Runs.of_body Try.func12 (by decide) rfl (by simp [Try.f12]) ?_
        refine W.seqE hT mixed M_f12 (by kernel_rfl) ?_
        simp [Try.f12]
        refine W.seqE hT mixed M_f12 (by kernel_rfl) ?_
        simp
        refine W.wk (Wk.adopt 3 5 52 (by omega) (by simp)) ?_
        refine W.cut True [(3, .own 0)] [.sl 5 52 (hRows l)] 32 ?_ ?_
        · refine W.seqE hT mixed M_f12 (by kernel_rfl) ?_
          simp
          refine W.block (W.for (fun _ => True) (fun k => [(0, .rd 5 (hRows l)), (3, .own 0), (4, .int .i64 k)]) (fun k => [.sl 5 52 (hRows (l.take k))]) 32 l.length trivial ?_ ?_)
          · simp [hRows]
          · intro k hk _
            refine W.of_WE hT mixed M_f12 _ (by kernel_rfl) ?_
            by_cases hlt : k < l.length
            · have hw1 : IntKind.i64.wrap ((k : Int) + 1) = k + 1 := wr_i64 (by omega) (by omega)
              have ht := twn_at (hrs l[k] (List.getElem_mem hlt))
              simp only [RS.cells] at ht
              have hsn := hRows_snoc hlt
              have hln : (hRows (l.take k)).length ≤ 1000 := by simp; omega
              rw [← hsn]
              generalize hRows (l.take k) = R at *
              simp [hlt, HD.row, ht, hw1]
              omega
            · have : k = l.length := by omega
              subst this
              rw [List.take_length]
              simp
        intro _
        refine W.of_WE hT mixed M_f12 _ (by kernel_rfl) ?_
        simp
      · cases hh
    · cases hh
  · cases hh
def M_f30 : Md := fun i => if i = 6 then some #[0, 0, 3, 7, 0, 0, 48, 112, 255] else some #[]
@[simp] theorem M_f30_eq {i : Nat} : M_f30 i = (if i = 6 then some #[0, 0, 3, 7, 0, 0, 48, 112, 255] else some #[]) := rfl
theorem runs_sameC : Runs Try.prog 30 [.rd 1 [[.str cC]], .rd 1 [[.str cC]]] ⟨.bool true, []⟩ := by
  refine Runs.of_body Try.func30 (by decide) rfl (by simp [Try.f30]) ?_
  refine W.seqE (T0_ok _) mixed M_f30 (by kernel_rfl) ?_
  simp [Try.f30]
  refine W.seqE (T0_ok _) mixed M_f30 (by kernel_rfl) ?_
  simp
  refine W.cut True [] [] 26 ?_ ?_
  · refine W.seqE (T0_ok _) mixed M_f30 (by kernel_rfl) ?_
    simp
    refine W.block (W.for (fun _ => True) (fun k => [(0, .rd 1 [[.str cC]]), (1, .rd 1 [[.str cC]]), (5, .int .i64 k)]) (fun _ => []) 26 1 trivial ?_ ?_)
    · simp
    · intro k hk _
      refine W.of_WE (T0_ok _) mixed M_f30 _ (by kernel_rfl) ?_
      match k, hk with
      | 0, _ => simp; decide
      | 1, _ => simp
  intro _
  refine W.of_WE (T0_ok _) mixed M_f30 _ (by kernel_rfl) ?_
  simp
/-- Nil lists of holders, nil resources of a step. -/
def nilL : V → V
  | .nils => .rd 5 []
  | x => x
def SPlan0 (args : List V) : Option Res := SPlan (args.map nilL)
theorem runs_Plan0 : ∀ args r, SPlan0 args = some r → Runs Try.prog 22 args r := by
  intro args r hh
  refine Runs.weak ?_ (runs_shrink_Plan _ _ hh)
  intro E vs h
  have key : ∀ (l : List V) (vs : List Value), RL E l vs → RL E (l.map nilL) vs := by
    intro l
    induction l with
    | nil => exact fun vs h => h
    | cons x l ih =>
      intro vs h
      simp only [List.map_cons, RL] at h ⊢
      obtain ⟨v, w, rfl, h1, h2⟩ := h
      refine ⟨v, w, rfl, ?_, ih _ h2⟩
      cases x <;> first | exact h1 | exact R_nils_rd 5 h1
  exact key _ _ h
theorem runs_Apply0 : Runs Try.prog 14 [.rd 5 (hRows exA), .agg [.str ⟨#[120]⟩, .nils, .nils, .nils]] ⟨.tup [.nils, .int .i64 6], []⟩ := by
  have h : SApp [.rd 5 (hRows exA), .agg (.str ⟨#[120]⟩ :: RS0.cells)] = some ⟨.tup [.nils, .int .i64 6], []⟩ := by
    have e := rsOf_cells RS0
    simp only [RS.cells] at e
    simp only [SApp, RS.cells, hRows_parse, e]
    rw [if_pos ⟨inL_exA, by decide +kernel⟩, ap1]
  refine Runs.weak ?_ (runs_shrink_Apply _ _ h)
  intro E vs h
  simp only [RL, R, RS0, RS.cells, sRows, aRows, List.map_nil] at h ⊢
  obtain ⟨v, vs', rfl, g0, w, vs2, rfl, ⟨ws, rfl, w0, ws0, rfl, g1, w1, ws1, rfl, g2, w2, ws2, rfl, g3, w3, ws3, rfl, g4, rfl⟩, rfl⟩ := h
  exact ⟨_, _, rfl, g0, _, _, rfl, ⟨_, rfl, w0, _, rfl, g1, w1, _, rfl, by subst g2; exact ⟨none, 0, rfl, Nat.le_refl _, Nat.zero_le _, by simp⟩, w2, _, rfl, by subst g3; exact ⟨none, 0, rfl, Nat.le_refl _, Nat.zero_le _, by simp⟩, w3, _, rfl, by subst g4; exact ⟨none, 0, rfl, Nat.le_refl _, Nat.zero_le _, by simp⟩, rfl⟩, rfl⟩

end Go.Proofs.Ytkcmgjagjbiinaa.AL
namespace Go.Proofs.Ytkcmgjagjbiinaa.AL
open Go
attribute [local simp] qf cv qbin ibin sbin qun retPost rvOk ctV ctPost marksOk retV resAll resOf V.lt ltL V.ren renL V.exp V.exp1 cleanL V.clean closedL V.closed V.cells V.one V.tree
  loadV cellsAt isNC nilQ isSlD isIfD slNew ownRows ownCells V.isOwn slStore srcO qlook mlook mget mstr zval qnone qmake mput lmap isAggD placesOf fillV putCells lstore bound seqParts V.sh shL Blk.sh newV V.ok peqs peq srcRows qbytes byteSl appOk mmV mmR hidE V.fz fzL Blk.fz fzOk and_assoc
attribute [-simp] Int.not_le Int.not_lt Nat.not_le Nat.not_lt
theorem many_snoc (k : Nat) : (List.range k).map (fun i => nRow (nmI i, .empty)) ++ [nRow (nmI k, .empty)] = (List.range (k + 1)).map (fun i => nRow (nmI i, .empty)) := by simp [List.range_succ]
theorem many_nil (k : Nat) : hRows (((List.range k).map fun i => (nmI i, ByteArray.empty)).map nHD) = hRows (manyL k) := by
  unfold manyL
  rw [List.map_map]
  rfl
theorem many_rows (k : Nat) : ((List.range k).map fun i => (nmI i, ByteArray.empty)).map nRow = (List.range k).map fun i => nRow (nmI i, .empty) := by
  rw [List.map_map]; rfl
def M_f9 : Md := fun i => if i = 37 then some #[0, 1, 3, 7, 15, 31, 63, 127, 255, 511, 1023, 2047, 4095, 8191, 16383, 32767, 65535, 131071, 262143, 524287, 1048575, 2097151, 4194303, 8388607, 16777215, 33554431, 67108863, 8388607, 268435455, 536870911, 1073741823, 2147483647, 4294967295, 8589934591, 17179869183, 34359738367, 68719476735, 137438953471, 274877906943, 549755813887, 1099511627775, 2199023255551, 4398046511103, 8796093022207, 1099511627775, 35184372088831, 70368744177663, 140737488355327, 281474976710655, 562949953421311, 1125899906842623] else some #[]
@[simp] theorem M_f9_eq {i : Nat} : M_f9 i = (if i = 37 then some #[0, 1, 3, 7, 15, 31, 63, 127, 255, 511, 1023, 2047, 4095, 8191, 16383, 32767, 65535, 131071, 262143, 524287, 1048575, 2097151, 4194303, 8388607, 16777215, 33554431, 67108863, 8388607, 268435455, 536870911, 1073741823, 2147483647, 4294967295, 8589934591, 17179869183, 34359738367, 68719476735, 137438953471, 274877906943, 549755813887, 1099511627775, 2199023255551, 4398046511103, 8796093022207, 1099511627775, 35184372088831, 70368744177663, 140737488355327, 281474976710655, 562949953421311, 1125899906842623] else some #[]) := rfl
theorem shrinkNames_runs : Runs Try.prog 9 [] ⟨.bool true, []⟩ := by
  have hT : ((T0.add 36 (oneS [] ⟨.tup [.rd 5 (hRows exA), .rd 5 (hRows exB)], []⟩)).add 12 STwO).ok Try.prog :=
    Tab.add_ok (Tab.add_ok (T0_ok _) (oneS_ok runs_law21_example)) runs_ref21_TwinO
  have ho := oneS_self (args := []) (r := ⟨.tup [.rd 5 (hRows exA), .rd 5 (hRows exB)], []⟩)
  refine Runs.of_body Try.func9 (by decide) rfl (by simp [Try.f9]) ?_
  refine W.seqE hT mixed M_f9 (by kernel_rfl) ?_
  simp [Try.f9]
  refine W.cut True [(1, .rd 5 (hRows exA)), (2, .rd 5 (hRows exB))] [] 321 ?_ ?_
  · refine W.of_WE hT mixed M_f9 _ (by kernel_rfl) ?_
    simp [ho]
  intro _
  refine W.seqE hT mixed M_f9 (by kernel_rfl) ?_
  simp
  refine W.wk (Wk.adopt 3 5 52 (by omega) (by simp)) ?_
  refine W.cutw True [(1, .rd 5 (hRows exA)), (2, .rd 5 (hRows exB)), (3, .rd 5 (hRows (manyL 31)))] [] 321 ?_ ?_
  · refine W.seqE hT mixed M_f9 (by kernel_rfl) ?_
    simp
    refine W.block (W.for (fun _ => True) (fun k => [(1, .rd 5 (hRows exA)), (2, .rd 5 (hRows exB)), (3, .own 0), (4, .int .i64 k)]) (fun k => [.sl 5 52 ((List.range k).map fun i => nRow (nmI i, .empty))]) 321 31 trivial ?_ ?_)
    · simp
    · intro k hk _
      by_cases hlt : k < 31
      · have hw1 : IntKind.i64.wrap ((k : Int) + 1) = k + 1 := wr_i64 (by omega) (by omega)
        have hn := nm_at k hlt
        have hlt' : (k : Int) < 31 := by omega
        have hsn := many_snoc k
        rw [← hsn]
        have hln : ((List.range k).map fun i => nRow (nmI i, .empty)).length ≤ 1000 := by simp; omega
        refine W.of_WE hT mixed M_f9 _ (by kernel_rfl) ?_
        generalize (List.range k).map (fun i => nRow (nmI i, .empty)) = R at *
        simp [hlt', hw1, isB, hn, nm_cat, nmD_size, nRow, sz_h]
        omega
      · have : k = 31 := by omega
        subst this
        refine W.of_WE hT mixed M_f9 _ (by kernel_rfl) ?_
        simp
        refine Wk.trans (Wk.weakS 0 (sz := 5) (ty := 52) (rows := (List.range 31).map fun i => nRow (nmI i, .empty)) (hRows (manyL 31)) (by simp) (by simp [hRows, manyL]) (hRows_tree _) (fun E vs h => by rw [← many_nil]; rw [← many_rows] at h; exact RL.nil_rows _ h)) ?_
        refine Wk.trans (Wk.freeze 0 (.sl 5 52 (hRows (manyL 31))) (by simp) (by simp)) ?_
        exact norm_wk [] (by simp [wkOkx, tmOk, dfOk, hpOk])
  intro _
  have ht0 := twO_at (len_chain 0)
  refine W.cut True [(1, .rd 5 (hRows exA)), (2, .rd 5 (hRows exB)), (3, .rd 5 (hRows (manyL 31))), (5, .own 0)] [.sl 5 52 (hRows (chainL 0))] 321 ?_ ?_
  · refine W.of_WE hT mixed M_f9 _ (by kernel_rfl) ?_
    have hml : (manyL 31).length = 31 := rfl
    simp [hml, chain_0, ht0]
  intro _
  refine W.cut True [(1, .rd 5 (hRows exA)), (2, .rd 5 (hRows exB)), (3, .rd 5 (hRows (manyL 31))), (5, .own 0)] [.sl 5 52 (hRows (chainL 29))] 321 ?_ ?_
  · refine W.seqE hT mixed M_f9 (by kernel_rfl) ?_
    simp
    refine W.block (W.for (fun _ => True) (fun k => [(1, .rd 5 (hRows exA)), (2, .rd 5 (hRows exB)), (3, .rd 5 (hRows (manyL 31))), (5, .own 0), (6, .int .i64 ((k : Int) + 1))]) (fun k => [.sl 5 52 (hRows (chainL k))]) 321 29 trivial ?_ ?_)
    · simp
    · intro k hk _
      by_cases hlt : k < 29
      · have hw1 : IntKind.i64.wrap ((k : Int) + 1 + 1) = k + 1 + 1 := wr_i64 (by omega) (by omega)
        have hw2 : IntKind.i64.wrap (k : Int) = k := wr_i64 (by omega) (by omega)
        have h30 : (k : Int) < 30 := by omega
        have h31 : k < 30 := by omega
        have h32 : k + 1 < 30 := by omega
        have hlt' : (k : Int) + 1 < 30 := by omega
        have hcs := chain_set hlt
        refine W.of_WE hT mixed M_f9 _ (by kernel_rfl) ?_
        simp [hlt', hw1, hw2, h30, h31, h32, chain_el, HD.row, RS.cells, RS0, sRows, aRows]
        exact ⟨by omega, hlt, hcs⟩
      · have : k = 29 := by omega
        subst this
        refine W.of_WE hT mixed M_f9 _ (by kernel_rfl) ?_
        simp
  intro _
  have ht1 := twO_at (len_chain 29)
  have hls := loop_set
  refine W.wk (Wk.freeze 0 (.sl 5 52 (hRows (chainL 29))) (by simp) (by simp)) ?_
  refine W.cut True [(1, .rd 5 (hRows exA)), (2, .rd 5 (hRows exB)), (3, .rd 5 (hRows (manyL 31))), (5, .rd 5 (hRows (chainL 29))), (7, .own 0)] [.sl 5 52 (hRows (chainL 29))] 321 ?_ ?_
  · refine W.of_WE hT mixed M_f9 _ (by kernel_rfl) ?_
    simp [ht1]
  intro _
  refine W.cut True [(1, .rd 5 (hRows exA)), (2, .rd 5 (hRows exB)), (3, .rd 5 (hRows (manyL 31))), (5, .rd 5 (hRows (chainL 29))), (7, .own 0)] [.sl 5 52 (hRows loopL)] 321 ?_ ?_
  · refine W.of_WE hT mixed M_f9 _ (by kernel_rfl) ?_
    simp [chain_el, HD.row, RS.cells, RS0, sRows, aRows]
    exact hls
  intro _
  refine W.wk (Wk.freeze 0 (.sl 5 52 (hRows loopL)) (by simp) (by simp)) ?_
  have hT2 : (T0.add 37 SAs2).ok Try.prog := Tab.add_ok (T0_ok _) runs_law21_as
  refine W.cut True [(1, .rd 5 (hRows exA)), (2, .rd 5 (hRows exB)), (3, .rd 5 (hRows (manyL 31))), (5, .rd 5 (hRows (chainL 29))), (8, .own 0)] [.slo 1 22 [[.own 1], [.own 2], [.own 3], [.rd 5 (hRows loopL)], [.own 4], [.own 5], [.own 6]], .sl 5 52 [nRow (.empty, .empty)], .sl 5 52 [nRow (bA, bB)], .sl 5 52 [nRow (bA, bA)], .sl 5 52 [nRow (bB, .empty), nRow (bA, .empty)], .sl 5 52 [nRow (bA, .empty), nRow (bA, .empty)], .sl 5 52 [[.str bA, .str .empty, .rd 4 [], .rd 4 [], .rd 2 [[.int .u32 5, .int .u32 4]]]]] 321 ?_ ?_
  · refine W.of_WE hT2 mixed M_f9 _ (by kernel_rfl) ?_
    generalize hRows exA = RA
    generalize hRows exB = RB
    generalize hRows (manyL 31) = RM
    generalize hRows (chainL 29) = RC
    generalize hRows loopL = RL
    simp [SAs2, asR, RS.cells, sRows, aRows, AS.row, nRow, bA, bB]
    refine ⟨[129, 9, 25, 41, 73, 97, 121], ?_⟩
    simp [wkOkx, tmOk, dfOk, hpOk]
    skip
  intro _
  refine W.wk (Wk.weakS 1 (sz := 5) (ty := 52) (rows := [nRow (.empty, .empty)]) (hRows [⟨.empty, .empty, RS0⟩]) (by simp) rfl (hRows_tree _) (fun E vs h => RL.nil_rows [(.empty, .empty)] h)) ?_
  refine W.wk (Wk.weakS 2 (sz := 5) (ty := 52) (rows := [nRow (bA, bB)]) (hRows [⟨bA, bB, RS0⟩]) (by simp) rfl (hRows_tree _) (fun E vs h => RL.nil_rows [(bA, bB)] h)) ?_
  refine W.wk (Wk.weakS 3 (sz := 5) (ty := 52) (rows := [nRow (bA, bA)]) (hRows [⟨bA, bA, RS0⟩]) (by simp) rfl (hRows_tree _) (fun E vs h => RL.nil_rows [(bA, bA)] h)) ?_
  refine W.wk (Wk.weakS 4 (sz := 5) (ty := 52) (rows := [nRow (bB, .empty), nRow (bA, .empty)]) (hRows [⟨bB, .empty, RS0⟩, ⟨bA, .empty, RS0⟩]) (by simp) rfl (hRows_tree _) (fun E vs h => RL.nil_rows [(bB, .empty), (bA, .empty)] h)) ?_
  refine W.wk (Wk.weakS 5 (sz := 5) (ty := 52) (rows := [nRow (bA, .empty), nRow (bA, .empty)]) (hRows [⟨bA, .empty, RS0⟩, ⟨bA, .empty, RS0⟩]) (by simp) rfl (hRows_tree _) (fun E vs h => RL.nil_rows [(bA, .empty), (bA, .empty)] h)) ?_
  refine W.wk (Wk.freeze 1 (.sl 5 52 (hRows [⟨.empty, .empty, RS0⟩])) (by simp) (by simp)) ?_
  refine W.wk (Wk.freeze 2 (.sl 5 52 (hRows [⟨bA, bB, RS0⟩])) (by simp) (by simp)) ?_
  refine W.wk (Wk.freeze 3 (.sl 5 52 (hRows [⟨bA, bA, RS0⟩])) (by simp) (by simp)) ?_
  refine W.wk (Wk.freeze 4 (.sl 5 52 (hRows [⟨bB, .empty, RS0⟩, ⟨bA, .empty, RS0⟩])) (by simp) (by simp)) ?_
  refine W.wk (Wk.freeze 5 (.sl 5 52 (hRows [⟨bA, .empty, RS0⟩, ⟨bA, .empty, RS0⟩])) (by simp) (by simp)) ?_
  refine W.wk (Wk.freeze 6 (.sl 5 52 (hRows [⟨bA, .empty, asR 5 4⟩])) (by simp [hRows, HD.row, RS.cells, asR, sRows, aRows, AS.row]) (by simp)) ?_
  refine W.wk (Wk.toSl 0 (sz := 1) (ty := 22) (rows := bads.map fun l => [.rd 5 (hRows l)]) (by simp [bads]) (by simp [bads])) ?_
  refine W.wk (Wk.freeze 0 (.sl 1 22 (bads.map fun l => [.rd 5 (hRows l)])) (by simp) (by simp)) ?_
  have hT3 : ((T0.add 31 SChkT).add 22 SPlan0).ok Try.prog := Tab.add_ok (Tab.add_ok (T0_ok _) runs_shrink_Check) runs_Plan0
  refine W.cut True [(1, .rd 5 (hRows exA)), (2, .rd 5 (hRows exB)), (3, .rd 5 (hRows (manyL 31))), (5, .rd 5 (hRows (chainL 29))), (8, .rd 1 (bads.map fun l => [.rd 5 (hRows l)]))] [] 321 ?_ ?_
  · obtain ⟨L, hL⟩ : ∃ L, L = bads := ⟨_, rfl⟩
    have hLl : L.length = 7 := by rw [hL]; rfl
    have hck : ∀ k (h : k < L.length), SChkT [.rd 5 (hRows L[k])] = some ⟨.int .i64 8, []⟩ := fun k h => by
      subst hL
      have h8 : chkT bads[k] = 8 := by
        have h1 : (bads.map chkT)[k]'(by simpa using h) = 8 := by
          have h2 : k < 7 := by omega
          simp only [chk_bads]
          match k, h2 with
          | 0, _ => rfl
          | 1, _ => rfl
          | 2, _ => rfl
          | 3, _ => rfl
          | 4, _ => rfl
          | 5, _ => rfl
          | 6, _ => rfl
        simpa using h1
      simp only [SChkT, hRows_parse]
      rw [if_pos (in_bads _ (List.getElem_mem h)), h8]
    rw [← hL]
    generalize hRows exA = RA
    generalize hRows exB = RB
    generalize hRows (manyL 31) = RM
    generalize hRows (chainL 29) = RC
    refine W.seqE hT3 mixed M_f9 (by kernel_rfl) ?_
    simp
    refine W.block (W.for (fun _ => True) (fun k => [(1, .rd 5 RA), (2, .rd 5 RB), (3, .rd 5 RM), (5, .rd 5 RC), (8, .rd 1 (L.map fun l => [.rd 5 (hRows l)])), (9, .int .i64 k)]) (fun _ => []) 321 L.length trivial ?_ ?_)
    · simp
    · intro k hk _
      by_cases hlt : k < L.length
      · have hw1 : IntKind.i64.wrap ((k : Int) + 1) = k + 1 := wr_i64 (by omega) (by omega)
        have hc := hck k hlt
        refine W.of_WE hT3 mixed M_f9 _ (by kernel_rfl) ?_
        simp [hlt, hw1, hc]
      · have : k = L.length := by omega
        subst this
        refine W.of_WE hT3 mixed M_f9 _ (by kernel_rfl) ?_
        simp
  intro _
  have hsn : ∀ {l : List HD} {e : Int}, chkT l = e → e ≠ 0 → chkT l = 0 → small l := fun h1 h2 h3 => absurd (h1.symm.trans h3) h2
  have sn : small ([] : List HD) := fun _ h => absurd h (by simp)
  have inn : inL ([] : List HD) := by decide
  have h20 : SPlan0 [.rd 5 (hRows (manyL 31)), .nils] = some ⟨.tup [.nils, .int .i64 4], []⟩ := (plan_at in_many inn (hsn chk_many (by decide)) fun _ => sn).trans (by rw [if_pos (by rw [pl1]; decide), pl1])
  have h21 : SPlan0 [.rd 5 (hRows exA), .rd 5 (hRows [⟨.empty, .empty, RS0⟩])] = some ⟨.tup [.nils, .int .i64 8], []⟩ := (plan_at inL_exA (in_bads _ (by simp [bads])) (fun _ => sm_ex.1) (hsn (e := 8) ((chkT_K _).trans (by kernel_rfl)) (by decide))).trans (by rw [if_pos (by rw [pl2]; decide), pl2])
  have h22 : SPlan0 [.rd 5 (hRows exA), .rd 5 (hRows (exA.drop 1))] = some ⟨.tup [.nils, .int .i64 2], []⟩ := (plan_at inL_exA in_ex1 (fun _ => sm_ex.1) fun _ => sm_ex.2.2.2).trans (by rw [if_pos (by rw [pl3]; decide), pl3])
  have h25 : SPlan0 [.rd 5 (hRows bigL), .rd 5 (hRows exB)] = some ⟨.tup [.nils, .int .i64 26], []⟩ := (plan_at in_big inL_exB (fun _ => sm_ex.2.2.1) fun _ => sm_ex.2.1).trans (by rw [if_pos (by rw [pl4]; decide), pl4])
  have h26 : SPlan0 [.rd 5 (hRows exA), .rd 5 (hRows bigL)] = some ⟨.tup [.nils, .int .i64 26], []⟩ := (plan_at inL_exA in_big (fun _ => sm_ex.1) fun _ => sm_ex.2.2.1).trans (by rw [if_pos (by rw [pl5]; decide), pl5])
  have h27 : SPlan0 [.rd 5 (hRows exA), .rd 5 (hRows exA)] = some ⟨.tup [.rd 4 [], .int .i64 0], []⟩ := (plan_at inL_exA inL_exA (fun _ => sm_ex.1) fun _ => sm_ex.1).trans (by rw [if_neg (by rw [pl6.1]; decide), pl6.2]; rfl)
  have h28 : SPlan0 [.nils, .nils] = some ⟨.tup [.rd 4 [], .int .i64 0], []⟩ := (plan_at inn inn (fun _ => sn) fun _ => sn).trans (by rw [if_neg (by rw [pl7.1]; decide), pl7.2]; rfl)
  have h29 : SExcs [.rd 5 (hRows bigL)] = some ⟨.tup [.rd 1 [[.str cC]], .int .i64 0], []⟩ := by
    simp only [SExcs, hRows_parse]
    rw [if_pos in_big, if_neg (by rw [ck_big]; simp), ex_big]
    rfl
  have hA : ∀ (n : ByteArray) (x y : Int), n.size ≤ 1000000 → (0 ≤ x ∧ x ≤ 4294967295 ∧ 0 ≤ y ∧ y ≤ 4294967295) → SApp [.rd 5 (hRows exA), .agg [.str n, .rd 4 [], .rd 4 [], .rd 2 [[.int .u32 x, .int .u32 y]]]] = match appT exA n (asR x y) with
      | .error e => some ⟨.tup [.nils, .int .i64 e], []⟩
      | .ok l' => some ⟨.tup [.rd 5 (hRows l'), .int .i64 0], []⟩ := fun n x y hn hxy => by
    have e := rsOf_cells (asR x y)
    have e2 : (asR x y).cells = [.rd 4 [], .rd 4 [], .rd 2 [[.int .u32 x, .int .u32 y]]] := rfl
    rw [e2] at e
    simp only [SApp, hRows_parse, e]
    rw [if_pos ⟨inL_exA, hn, inRS_as hxy, by simp [lenRS, asR]⟩]
    rfl
  have h31 := hA cC 2 1 (by decide) (by decide)
  rw [ap2] at h31
  have h32 := hA cC 1 11 (by decide) (by decide)
  rw [ap3] at h32
  have h33 := hA cR 1 4 (by decide) (by decide)
  rw [ap4] at h33
  have h34 := hA cR 1 5 (by decide) (by decide)
  rw [ap5] at h34
  simp only [cC, cR] at h29 h31 h32 h33 h34
  have h35 : SClip [.rd 5 (hRows bigL)] = some ⟨.tup [.rd 5 (hRows (tr2 (asR 1 10) (asR 1 10))), .int .i64 0], []⟩ := by
    obtain ⟨R, hc1, hc2⟩ := clip_big
    rw [clip_at in_big, if_neg (by rw [ck_big]; simp), hc1]
    simp only
    rw [hc2]
  have hTw := twO_at (l := exA) (by decide)
  have hT4 : ((T0.add 12 STwO).add 37 SAs2).ok Try.prog := Tab.add_ok (Tab.add_ok (T0_ok _) runs_ref21_TwinO) runs_law21_as
  have hT5 : (((T0.add 27 SExcs).add 14 SApp).add 37 SAs2).ok Try.prog := Tab.add_ok (Tab.add_ok (Tab.add_ok (T0_ok _) runs_shrink_Excess) runs_shrink_Apply) runs_law21_as
  have hT6 : ((T0.add 14 (oneS [.rd 5 (hRows exA), .agg [.str ⟨#[120]⟩, .nils, .nils, .nils]] ⟨.tup [.nils, .int .i64 6], []⟩)).add 16 SClip).ok Try.prog := Tab.add_ok (Tab.add_ok (T0_ok _) (oneS_ok runs_Apply0)) runs_shrink_Clip
  have h30 := oneS_self (args := [.rd 5 (hRows exA), .agg [.str ⟨#[120]⟩, .nils, .nils, .nils]]) (r := ⟨.tup [.nils, .int .i64 6], []⟩)
  refine W.cut True [(1, .rd 5 (hRows exA)), (2, .rd 5 (hRows exB)), (3, .rd 5 (hRows (manyL 31))), (5, .rd 5 (hRows (chainL 29))), (8, .rd 1 (bads.map fun l => [.rd 5 (hRows l)])), (11, .int .i64 4)] [] 321 ?_ ?_
  · refine W.of_WE hT3 mixed M_f9 _ (by kernel_rfl) ?_
    simp [h20]
  intro _
  refine W.cut True [(1, .rd 5 (hRows exA)), (2, .rd 5 (hRows exB)), (3, .rd 5 (hRows (manyL 31))), (5, .rd 5 (hRows (chainL 29))), (11, .int .i64 4), (13, .int .i64 8)] [] 321 ?_ ?_
  · refine W.of_WE hT3 mixed M_f9 _ (by kernel_rfl) ?_
    simp [bads, h21]
  intro _
  refine W.cut True [(1, .rd 5 (hRows exA)), (2, .rd 5 (hRows exB)), (3, .rd 5 (hRows (manyL 31))), (5, .rd 5 (hRows (chainL 29))), (11, .int .i64 4), (13, .int .i64 8), (15, .int .i64 2)] [] 321 ?_ ?_
  · refine W.of_WE hT3 mixed M_f9 _ (by kernel_rfl) ?_
    have hl2 : exA.length = 2 := rfl
    have h22' : SPlan0 [.rd 5 (hRows exA), .rd 5 (List.take 1 (hRows exA).tail)] = some ⟨.tup [.nils, .int .i64 2], []⟩ := h22
    simp [hl2, h22']
  intro _
  refine W.cut True [(1, .rd 5 (hRows exA)), (2, .rd 5 (hRows exB)), (3, .rd 5 (hRows (manyL 31))), (5, .rd 5 (hRows (chainL 29))), (11, .int .i64 4), (13, .int .i64 8), (15, .int .i64 2), (16, .own 0)] [.sl 5 52 (hRows exA)] 321 ?_ ?_
  · refine W.of_WE hT4 mixed M_f9 _ (by kernel_rfl) ?_
    simp [hTw]
  intro _
  refine W.cut True [(1, .rd 5 (hRows exA)), (2, .rd 5 (hRows exB)), (3, .rd 5 (hRows (manyL 31))), (5, .rd 5 (hRows (chainL 29))), (11, .int .i64 4), (13, .int .i64 8), (15, .int .i64 2), (16, .own 0)] [.sl 5 52 (hRows bigL)] 321 ?_ ?_
  · refine W.of_WE hT4 mixed M_f9 _ (by kernel_rfl) ?_
    simp [SAs2, asR, RS.cells, sRows, aRows, AS.row, hRows, exA, bigL, tr2, HD.row, cC, cR]
  intro _
  refine W.wk (Wk.freeze 0 (.sl 5 52 (hRows bigL)) (by simp) (by simp)) ?_
  refine W.cut True [(1, .rd 5 (hRows exA)), (2, .rd 5 (hRows exB)), (3, .rd 5 (hRows (manyL 31))), (5, .rd 5 (hRows (chainL 29))), (11, .int .i64 4), (13, .int .i64 8), (15, .int .i64 2), (16, .rd 5 (hRows bigL)), (18, .int .i64 26)] [] 321 ?_ ?_
  · refine W.of_WE hT3 mixed M_f9 _ (by kernel_rfl) ?_
    simp [h25]
  intro _
  refine W.cut True [(1, .rd 5 (hRows exA)), (3, .rd 5 (hRows (manyL 31))), (5, .rd 5 (hRows (chainL 29))), (11, .int .i64 4), (13, .int .i64 8), (15, .int .i64 2), (16, .rd 5 (hRows bigL)), (18, .int .i64 26), (20, .int .i64 26)] [] 321 ?_ ?_
  · refine W.of_WE hT3 mixed M_f9 _ (by kernel_rfl) ?_
    simp [h26]
  intro _
  refine W.cut True [(1, .rd 5 (hRows exA)), (3, .rd 5 (hRows (manyL 31))), (5, .rd 5 (hRows (chainL 29))), (11, .int .i64 4), (13, .int .i64 8), (15, .int .i64 2), (16, .rd 5 (hRows bigL)), (18, .int .i64 26), (20, .int .i64 26), (21, .rd 4 []), (22, .int .i64 0)] [] 321 ?_ ?_
  · refine W.of_WE hT3 mixed M_f9 _ (by kernel_rfl) ?_
    simp [h27]
  intro _
  refine W.cut True [(1, .rd 5 (hRows exA)), (3, .rd 5 (hRows (manyL 31))), (5, .rd 5 (hRows (chainL 29))), (11, .int .i64 4), (13, .int .i64 8), (15, .int .i64 2), (16, .rd 5 (hRows bigL)), (18, .int .i64 26), (20, .int .i64 26), (21, .rd 4 []), (22, .int .i64 0), (23, .rd 4 []), (24, .int .i64 0)] [] 321 ?_ ?_
  · refine W.of_WE hT3 mixed M_f9 _ (by kernel_rfl) ?_
    simp [h28]
  intro _
  refine W.cut True [(1, .rd 5 (hRows exA)), (3, .rd 5 (hRows (manyL 31))), (5, .rd 5 (hRows (chainL 29))), (11, .int .i64 4), (13, .int .i64 8), (15, .int .i64 2), (16, .rd 5 (hRows bigL)), (18, .int .i64 26), (20, .int .i64 26), (21, .rd 4 []), (22, .int .i64 0), (23, .rd 4 []), (24, .int .i64 0), (25, .rd 1 [[.str ⟨#[99]⟩]]), (26, .int .i64 0)] [] 321 ?_ ?_
  · refine W.of_WE hT5 mixed M_f9 _ (by kernel_rfl) ?_
    simp [h29]
  intro _
  refine W.cut True [(1, .rd 5 (hRows exA)), (3, .rd 5 (hRows (manyL 31))), (5, .rd 5 (hRows (chainL 29))), (11, .int .i64 4), (13, .int .i64 8), (15, .int .i64 2), (16, .rd 5 (hRows bigL)), (18, .int .i64 26), (20, .int .i64 26), (21, .rd 4 []), (22, .int .i64 0), (23, .rd 4 []), (24, .int .i64 0), (25, .rd 1 [[.str ⟨#[99]⟩]]), (26, .int .i64 0), (28, .int .i64 6)] [] 321 ?_ ?_
  · refine W.of_WE hT6 mixed M_f9 _ (by kernel_rfl) ?_
    simp [h30]
  intro _
  refine W.cut True [(1, .rd 5 (hRows exA)), (3, .rd 5 (hRows (manyL 31))), (5, .rd 5 (hRows (chainL 29))), (11, .int .i64 4), (13, .int .i64 8), (15, .int .i64 2), (16, .rd 5 (hRows bigL)), (18, .int .i64 26), (20, .int .i64 26), (21, .rd 4 []), (22, .int .i64 0), (23, .rd 4 []), (24, .int .i64 0), (25, .rd 1 [[.str ⟨#[99]⟩]]), (26, .int .i64 0), (28, .int .i64 6), (30, .int .i64 8)] [] 321 ?_ ?_
  · refine W.of_WE hT5 mixed M_f9 _ (by kernel_rfl) ?_
    simp [SAs2, asR, RS.cells, sRows, aRows, AS.row, h31]
  intro _
  refine W.cut True [(1, .rd 5 (hRows exA)), (3, .rd 5 (hRows (manyL 31))), (5, .rd 5 (hRows (chainL 29))), (11, .int .i64 4), (13, .int .i64 8), (15, .int .i64 2), (16, .rd 5 (hRows bigL)), (18, .int .i64 26), (20, .int .i64 26), (21, .rd 4 []), (22, .int .i64 0), (23, .rd 4 []), (24, .int .i64 0), (25, .rd 1 [[.str ⟨#[99]⟩]]), (26, .int .i64 0), (28, .int .i64 6), (30, .int .i64 8), (32, .int .i64 26)] [] 321 ?_ ?_
  · refine W.of_WE hT5 mixed M_f9 _ (by kernel_rfl) ?_
    simp [SAs2, asR, RS.cells, sRows, aRows, AS.row, h32]
  intro _
  refine W.cut True [(1, .rd 5 (hRows exA)), (3, .rd 5 (hRows (manyL 31))), (5, .rd 5 (hRows (chainL 29))), (11, .int .i64 4), (13, .int .i64 8), (15, .int .i64 2), (16, .rd 5 (hRows bigL)), (18, .int .i64 26), (20, .int .i64 26), (21, .rd 4 []), (22, .int .i64 0), (23, .rd 4 []), (24, .int .i64 0), (25, .rd 1 [[.str ⟨#[99]⟩]]), (26, .int .i64 0), (28, .int .i64 6), (30, .int .i64 8), (32, .int .i64 26), (34, .int .i64 26)] [] 321 ?_ ?_
  · refine W.of_WE hT5 mixed M_f9 _ (by kernel_rfl) ?_
    simp [SAs2, asR, RS.cells, sRows, aRows, AS.row, h33]
  intro _
  refine W.cut True [(1, .rd 5 (hRows exA)), (3, .rd 5 (hRows (manyL 31))), (5, .rd 5 (hRows (chainL 29))), (11, .int .i64 4), (13, .int .i64 8), (15, .int .i64 2), (16, .rd 5 (hRows bigL)), (18, .int .i64 26), (20, .int .i64 26), (21, .rd 4 []), (22, .int .i64 0), (23, .rd 4 []), (24, .int .i64 0), (25, .rd 1 [[.str ⟨#[99]⟩]]), (26, .int .i64 0), (28, .int .i64 6), (30, .int .i64 8), (32, .int .i64 26), (34, .int .i64 26), (35, .rd 5 (hRows (tr2 (asR 1 5) (asR 1 5)))), (36, .int .i64 0)] [] 321 ?_ ?_
  · refine W.of_WE hT5 mixed M_f9 _ (by kernel_rfl) ?_
    generalize hRows (tr2 (asR 1 5) (asR 1 5)) = RX at *
    simp [SAs2, asR, RS.cells, sRows, aRows, AS.row, h34]
  intro _
  refine W.cut True [(3, .rd 5 (hRows (manyL 31))), (5, .rd 5 (hRows (chainL 29))), (11, .int .i64 4), (13, .int .i64 8), (15, .int .i64 2), (18, .int .i64 26), (20, .int .i64 26), (21, .rd 4 []), (22, .int .i64 0), (23, .rd 4 []), (24, .int .i64 0), (25, .rd 1 [[.str ⟨#[99]⟩]]), (26, .int .i64 0), (28, .int .i64 6), (30, .int .i64 8), (32, .int .i64 26), (34, .int .i64 26), (35, .rd 5 (hRows (tr2 (asR 1 5) (asR 1 5)))), (36, .int .i64 0), (37, .rd 5 (hRows (tr2 (asR 1 10) (asR 1 10)))), (38, .int .i64 0)] [] 321 ?_ ?_
  · refine W.of_WE hT6 mixed M_f9 _ (by kernel_rfl) ?_
    simp [h35]
  intro _
  have hT7 : (T0.add 30 (oneS [.rd 1 [[.str ⟨#[99]⟩]], .rd 1 [[.str ⟨#[99]⟩]]] ⟨.bool true, []⟩)).ok Try.prog := Tab.add_ok (T0_ok _) (oneS_ok runs_sameC)
  have h36 := oneS_self (args := [.rd 1 [[.str ⟨#[99]⟩]], .rd 1 [[.str ⟨#[99]⟩]]]) (r := ⟨.bool true, []⟩)
  refine W.cut True [(3, .rd 5 (hRows (manyL 31))), (5, .rd 5 (hRows (chainL 29))), (35, .rd 5 (hRows (tr2 (asR 1 5) (asR 1 5)))), (36, .int .i64 0), (37, .rd 5 (hRows (tr2 (asR 1 10) (asR 1 10)))), (38, .int .i64 0), (39, .bool true)] [] 321 ?_ ?_
  · refine W.of_WE hT7 mixed M_f9 _ (by kernel_rfl) ?_
    simp [h36]
  intro _
  have hT8 : ((((T0.add 31 SChkT).add 37 SAs2).add 35 SSameR).add 21 (oneS [] ⟨.bool true, []⟩)).ok Try.prog := Tab.add_ok (Tab.add_ok (Tab.add_ok (Tab.add_ok (T0_ok _) runs_shrink_Check) runs_law21_as) runs_resource_Same) (oneS_ok runs_law21_alive)
  have h37a : SChkT [.rd 5 (hRows (manyL 31))] = some ⟨.int .i64 4, []⟩ := by simp only [SChkT, hRows_parse]; rw [if_pos in_many, chk_many]
  have h37b : SChkT [.rd 5 (hRows (chainL 29))] = some ⟨.int .i64 0, []⟩ := by simp only [SChkT, hRows_parse]; rw [if_pos in_chain, chk_chain]
  have h37c : SSameR [.agg [.rd 4 [], .rd 4 [], .rd 2 [[.int .u32 1, .int .u32 5]]], .agg [.rd 4 [], .rd 4 [], .rd 2 [[.int .u32 1, .int .u32 5]]]] = some ⟨.bool true, []⟩ := by kernel_rfl
  have h37d : SSameR [.agg [.rd 4 [], .rd 4 [], .rd 2 [[.int .u32 1, .int .u32 10]]], .agg [.rd 4 [], .rd 4 [], .rd 2 [[.int .u32 1, .int .u32 10]]]] = some ⟨.bool true, []⟩ := by kernel_rfl
  have h37e := aliveS
  have hr1 : hRows (tr2 (asR 1 5) (asR 1 5)) = [[.str ⟨#[99]⟩, .str ⟨#[114]⟩, .rd 4 [], .rd 4 [], .rd 2 [[.int .u32 1, .int .u32 5]]], [.str ⟨#[114]⟩, .str ⟨#[]⟩, .rd 4 [], .rd 4 [], .rd 2 [[.int .u32 1, .int .u32 5]]]] := rfl
  have hr2 : hRows (tr2 (asR 1 10) (asR 1 10)) = [[.str ⟨#[99]⟩, .str ⟨#[114]⟩, .rd 4 [], .rd 4 [], .rd 2 [[.int .u32 1, .int .u32 10]]], [.str ⟨#[114]⟩, .str ⟨#[]⟩, .rd 4 [], .rd 4 [], .rd 2 [[.int .u32 1, .int .u32 10]]]] := rfl
  rw [hr1, hr2]
  generalize hRows (manyL 31) = RM at *
  generalize hRows (chainL 29) = RC at *
  refine W.of_WE hT8 mixed M_f9 _ (by kernel_rfl) ?_
  simp [SAs2, asR, RS.cells, sRows, aRows, AS.row, h37a, h37b, h37c, h37d, h37e]
theorem shrinkNames_runs' : ∀ As, ArgsV Try.prog Try.f9.params.toList [] As → Runs Try.prog 9 As ⟨.bool true, []⟩ := by
  intro As h
  simp only [Try.f9, ArgsV] at h
  rw [h.2]
  exact shrinkNames_runs

end Go.Proofs.Ytkcmgjagjbiinaa.AL
