import Derived.Test.YtkcmgjagjbiinaaC21nW6
/- What single functions compute: a part of the proof; no conditions. -/
set_option linter.unusedVariables false
set_option linter.unusedSimpArgs false
set_option maxRecDepth 100000
set_option linter.unusedSectionVars false
namespace Go.Proofs.Ytkcmgjagjbiinaa.AL
open Go
attribute [local simp] qf cv qbin ibin sbin qun retPost rvOk ctV ctPost marksOk retV resAll resOf V.lt ltL V.ren renL V.exp V.exp1 cleanL V.clean closedL V.closed V.cells V.one V.tree
  loadV cellsAt isNC nilQ isSlD isIfD slNew ownRows ownCells V.isOwn slStore srcO qlook mlook mget mstr zval qnone qmake mput lmap isAggD placesOf fillV putCells lstore bound seqParts V.sh shL Blk.sh newV V.ok peqs peq srcRows qbytes byteSl appOk mmV mmR hidE V.fz fzL Blk.fz fzOk and_assoc
attribute [-simp] Int.not_le Int.not_lt Nat.not_le Nat.not_lt
def SHasAD : List V → Option Res
  | [.agg cs, .int .u32 x] => match rsOf cs with
    | some r => if inRS r ∧ lenRS 1000000 r ∧ 0 ≤ x ∧ x ≤ 4294967295 then
        (if chkR r ≠ 0 then some ⟨.tup [.bool false, .int .i64 (chkR r)], []⟩ else some ⟨.tup [.bool (inLA (r.la.map wideS) (0, x)), .int .i64 0], []⟩) else none
    | none => none
  | _ => none
theorem inL_at' {l : List SP} {x y : Int} (h : l.length ≤ 1000000) : SInL [.rd 4 (sRows l), .agg [.int .u64 x, .int .u64 y]] = some ⟨.bool (inLA l (x, y)), []⟩ := inL_at (p := (x, y)) h
theorem sameR_iff {a b : RS} (ia : inRS a) (ib : inRS b) : sameR a b = true ↔ ∀ k, k < 3 → a.lst k = b.lst k := by
  unfold sameR
  simp only [Bool.and_eq_true, decide_eq_true_eq]
  have hw : a.la.map wideS = b.la.map wideS ↔ a.la = b.la := by
    constructor
    · intro h
      have inj : ∀ (l m : List AS), l.map wideS = m.map wideS → l = m := by
        intro l
        induction l with
        | nil => intro m h; cases m <;> simp at h ⊢
        | cons x l ih =>
          intro m h
          cases m with
          | nil => simp at h
          | cons y m =>
            simp only [List.map_cons, List.cons.injEq] at h
            obtain ⟨h1, h2⟩ := h
            rw [ih m h2]
            congr 1
            cases x; cases y
            simp only [wideS, SP.mk.injEq] at h1
            simp [h1.2.1, h1.2.2.2]
      exact inj _ _ h
    · intro h; rw [h]
  constructor
  · rintro ⟨⟨h0, h1⟩, h2⟩ k hk
    match k, hk with
    | 0, _ => exact h0
    | 1, _ => exact h1
    | 2, _ => exact hw.2 h2
  · intro h
    obtain ⟨h0, h1, h2⟩ := forall3 h
    exact ⟨⟨h0, h1⟩, hw.1 h2⟩
theorem sameR_F {a b : RS} (ia : inRS a) (ib : inRS b) {k : Nat} (hk : k < 3) (h : a.lst k ≠ b.lst k) : sameR a b = false := by
  rw [Bool.eq_false_iff]
  exact fun hc => h ((sameR_iff ia ib).1 hc k hk)
def SSameD : List V → Option Res
  | [.agg ca, .agg cb] => match rsOf ca, rsOf cb with
    | some a, some b => if inRS a ∧ inRS b ∧ lenRS 1000000 a ∧ lenRS 1000000 b then some ⟨.bool (sameR a b), []⟩ else none
    | _, _ => none
  | _ => none
theorem SP_ne {s t : SP} : (((decide (s.h = t.h) && decide (s.l = t.l)) && (decide (s.h' = t.h') && decide (s.l' = t.l'))) = true) ↔ s = t := by
  cases s; cases t; simp [and_assoc]
def M_f20 : Md := fun i => if i = 6 then some #[0, 0, 3, 7, 15, 0, 0, 96, 224, 480, 1023] else if i = 11 then some #[0, 0, 3, 7, 0, 31, 63, 0, 0, 384, 896, 0, 3968, 8064, 16383] else some #[]
@[simp] theorem M_f20_eq {i : Nat} : M_f20 i = (if i = 6 then some #[0, 0, 3, 7, 15, 0, 0, 96, 224, 480, 1023] else if i = 11 then some #[0, 0, 3, 7, 0, 31, 63, 0, 0, 384, 896, 0, 3968, 8064, 16383] else some #[]) := rfl
theorem runs_ref03_Same : ∀ args r, SSameD args = some r → Runs Try.prog 20 args r := by
  intro args r hh
  unfold SSameD at hh
  split at hh
  · rename_i ca cb
    split at hh
    · rename_i a b ha hb
      split at hh
      · rename_i hin
        obtain ⟨ina, inb, la, lb⟩ := hin
        cases hh
        have h1 := rsOf_eq ha
        have h2 := rsOf_eq hb
        subst h1 h2
        have sa := lists_at ina la
        have sb := lists_at inb lb
        simp only [RS.cells] at sa sb
        have hT : (T0.add 38 SLists).ok Try.prog := Tab.add_ok (T0_ok _) runs_ref03_lists
        refine Runs.of_body Try.func20 (by decide) rfl (by simp [Try.f20]) ?_
        refine W.seqE hT mixed M_f20 (by kernel_rfl) ?_
        simp [Try.f20, RS.cells]
        refine W.seqE hT mixed M_f20 (by kernel_rfl) ?_
        simp [Try.f20, RS.cells, sa]
        refine W.seqE hT mixed M_f20 (by kernel_rfl) ?_
        simp [Try.f20, RS.cells, sb]
        refine W.cut (sameR a b = true) [] [] 60 ?_ ?_
        · refine W.seqE hT mixed M_f20 (by kernel_rfl) ?_
          simp [Try.f20]
          refine W.block (W.for (fun k => ∀ j, j < k → a.lst j = b.lst j) (fun k => [(5, .rd 1 (lstRows a)), (7, .rd 1 (lstRows b)), (9, .int .i64 k)]) (fun k => []) 60 3 (fun j hj => absurd hj (by omega)) ?_ ?_)
          · simp
          · intro k hk hJ
            refine W.seqE hT mixed M_f20 (by kernel_rfl) ?_
            by_cases hlt : k < 3
            · have hw1 : IntKind.i64.wrap ((k : Int) + 1) = k + 1 := wr_i64 (by omega) (by omega)
              have hlt' : (k : Int) < 3 := by omega
              have hla := len_lst la k
              simp [hlt, hlt']
              refine W.cut (a.lst k = b.lst k) [(5, .rd 1 (lstRows a)), (7, .rd 1 (lstRows b)), (9, .int .i64 k)] [] 60 ?_ ?_
              · refine W.block ?_
                refine W.cut ((a.lst k).length = (b.lst k).length) [(5, .rd 1 (lstRows a)), (7, .rd 1 (lstRows b)), (9, .int .i64 k)] [] 60 ?_ ?_
                · refine W.of_WE hT mixed M_f20 _ (by kernel_rfl) ?_
                  by_cases hl : (a.lst k).length = (b.lst k).length
                  · have hl' : ((a.lst k).length : Int) = (b.lst k).length := by omega
                    simp [hlt, hlt', hl, hl', lstRows_get a hlt, lstRows_get b hlt]
                  · have hl' : ¬ ((a.lst k).length : Int) = (b.lst k).length := by omega
                    have hf := sameR_F ina inb hlt (fun h => hl (by rw [h]))
                    simp [hlt, hlt', hl, hl', lstRows_get a hlt, lstRows_get b hlt, hf]
                · intro hl
                  refine W.seqE hT mixed M_f20 (by kernel_rfl) ?_
                  simp
                  refine W.block (W.for (fun i => ∀ j (hj : j < i) (h : j < (a.lst k).length) (h' : j < (b.lst k).length), (a.lst k)[j] = (b.lst k)[j]) (fun i => [(5, .rd 1 (lstRows a)), (7, .rd 1 (lstRows b)), (9, .int .i64 k), (10, .int .i64 i)]) (fun _ => []) 60 (a.lst k).length (fun j hj => absurd hj (by omega)) ?_ ?_)
                  · simp
                  · intro i hi hJi
                    refine W.of_WE hT mixed M_f20 _ (by kernel_rfl) ?_
                    by_cases hil : i < (a.lst k).length
                    · have hw2 : IntKind.i64.wrap ((i : Int) + 1) = (i : Int) + 1 := wr_i64 (by omega) (by omega)
                      have hil2 : i < (b.lst k).length := by omega
                      by_cases e : (a.lst k)[i] = (b.lst k)[i]
                      · have hJ2 : ∀ j (hj : j < i + 1) (h : j < (a.lst k).length) (h' : j < (b.lst k).length), (a.lst k)[j] = (b.lst k)[j] := by
                          intro j hj h h'
                          rcases Nat.lt_or_ge j i with g | g
                          · exact hJi j g h h'
                          · have : j = i := by omega
                            subst this; exact e
                        simp [hlt, hlt', hil, hil2, lstRows_get a hlt, lstRows_get b hlt, SP.row, hw2, e]
                        exact hJ2
                      · have hf := sameR_F ina inb hlt (fun h => e (by simp [h]))
                        have hne : (((decide ((a.lst k)[i].h = (b.lst k)[i].h) && decide ((a.lst k)[i].l = (b.lst k)[i].l)) && (decide ((a.lst k)[i].h' = (b.lst k)[i].h') && decide ((a.lst k)[i].l' = (b.lst k)[i].l')))) = false := by
                          rw [Bool.eq_false_iff]; exact fun h => e (SP_ne.1 h)
                        simp [hlt, hlt', hil, hil2, lstRows_get a hlt, lstRows_get b hlt, SP.row, hne, hf]
                        intro e1 e2 e3 e4
                        exact absurd (SP_ne.1 (by simp [e1, e2, e3, e4])) e
                    · simp [hlt, hlt', hil, lstRows_get a hlt]
                      refine List.ext_getElem hl fun j h h' => hJi j (by omega) h h'
              · intro hgg
                have hJ' : ∀ j, j < k + 1 → a.lst j = b.lst j := by
                  intro j hj
                  rcases Nat.lt_or_ge j k with g | g
                  · exact hJ j g
                  · rw [show j = k by omega]; exact hgg
                refine W.of_WE hT mixed M_f20 _ (by kernel_rfl) ?_
                simp [hw1, hlt]
                exact hJ'
            · have : k = 3 := by omega
              subst this
              simp
              exact (sameR_iff ina inb).2 hJ
        · intro hgg
          refine W.of_WE hT mixed M_f20 _ (by kernel_rfl) ?_
          simp [Try.f20, hgg]
      · cases hh
    · cases hh
  · cases hh

end Go.Proofs.Ytkcmgjagjbiinaa.AL
namespace Go.Proofs.Ytkcmgjagjbiinaa.AL
open Go
/-! Lists of spans as sets of numbers. -/
def SP.lo (s : SP) : Int := numA (s.h, s.l)
def SP.hi (s : SP) : Int := numA (s.h', s.l')
structure Vf (f : Int) (s : SP) : Prop where
  a : inA s.h s.l
  b : inA s.h' s.l'
  ca : cAddr f s.h s.l = true
  cb : cAddr f s.h' s.l' = true
  le : s.lo ≤ s.hi
  nn : 0 ≤ s.lo
  lt : s.hi < 2 ^ widN f
def mem (l : List SP) (N : Int) : Prop := ∃ s ∈ l, s.lo ≤ N ∧ N ≤ s.hi
/-- A gap between. -/
def gapR (s t : SP) : Prop := s.hi + 1 < t.lo
structure Nrm (f : Int) (l : List SP) : Prop where
  v : ∀ s ∈ l, Vf f s
  p : l.Pairwise gapR
theorem mem_nil {N : Int} : ¬ mem [] N := by rintro ⟨s, hs, _⟩; cases hs
theorem mem_cons {s : SP} {l : List SP} {N : Int} : mem (s :: l) N ↔ (s.lo ≤ N ∧ N ≤ s.hi) ∨ mem l N := by
  unfold mem
  constructor
  · rintro ⟨t, ht, h⟩
    rcases List.mem_cons.1 ht with rfl | ht
    · exact .inl h
    · exact .inr ⟨t, ht, h⟩
  · rintro (h | ⟨t, ht, h⟩)
    · exact ⟨s, by simp, h⟩
    · exact ⟨t, by simp [ht], h⟩
theorem mem_append {l m : List SP} {N : Int} : mem (l ++ m) N ↔ mem l N ∨ mem m N := by
  unfold mem
  constructor
  · rintro ⟨t, ht, h⟩
    rcases List.mem_append.1 ht with ht | ht
    · exact .inl ⟨t, ht, h⟩
    · exact .inr ⟨t, ht, h⟩
  · rintro (⟨t, ht, h⟩ | ⟨t, ht, h⟩)
    · exact ⟨t, by simp [ht], h⟩
    · exact ⟨t, by simp [ht], h⟩
theorem mem_one {s : SP} {N : Int} : mem [s] N ↔ s.lo ≤ N ∧ N ≤ s.hi := by
  rw [mem_cons]
  exact ⟨fun h => h.resolve_right mem_nil, .inl⟩
theorem cAddr_num {f h l : Int} (hf : f = 4 ∨ f = 6) (hA : inA h l) (hlt : numA (h, l) < 2 ^ widN f) : cAddr f h l = true := by
  obtain ⟨h0, h1, l0, l1⟩ := hA
  rcases hf with rfl | rfl
  · have hlt : h * 18446744073709551616 + l < 4294967296 := hlt
    have : h = 0 := by omega
    subst this
    unfold cAddr
    simp
    omega
  · rfl
theorem Vf.f46 {f : Int} {s : SP} (h : Vf f s) : f = 4 ∨ f = 6 := cAddr_46 h.ca
theorem Vf.mk' {f : Int} {s : SP} (hf : f = 4 ∨ f = 6) (ha : inA s.h s.l) (hb : inA s.h' s.l') (hle : s.lo ≤ s.hi) (hlt : s.hi < 2 ^ widN f) : Vf f s :=
  ⟨ha, hb, cAddr_num hf ha (Int.lt_of_le_of_lt hle hlt), cAddr_num hf hb hlt, hle, by obtain ⟨h0, h1, l0, l1⟩ := ha; unfold SP.lo numA; simp only; omega, hlt⟩
theorem vf_of {f : Int} {s : SP} (h : chkS f s.h s.l s.h' s.l' = 0) (hs : inSP s) : Vf f s := by
  obtain ⟨h1, h2, h3, h4, h5⟩ := chk_parts h hs
  exact ⟨h1, h2, h3, h4, h5, (numA_lt h1 h3).1, (numA_lt h2 h4).2⟩
theorem Vf.inj {f : Int} {s t : SP} (hs : Vf f s) (ht : Vf f t) (h1 : s.lo = t.lo) (h2 : s.hi = t.hi) : s = t := by
  have e1 := numA_inj (p := (s.h, s.l)) (q := (t.h, t.l)) ⟨hs.a.2.2.1, hs.a.2.2.2⟩ ⟨ht.a.2.2.1, ht.a.2.2.2⟩ h1
  have e2 := numA_inj (p := (s.h', s.l')) (q := (t.h', t.l')) ⟨hs.b.2.2.1, hs.b.2.2.2⟩ ⟨ht.b.2.2.1, ht.b.2.2.2⟩ h2
  cases s; cases t
  simp only [Prod.mk.injEq] at e1 e2
  simp [e1, e2]
theorem gap_of {l : List SP} (hle : ∀ s ∈ l, s.lo ≤ s.hi) (h : ∀ i (h : i + 1 < l.length), gapR (l[i]'(by omega)) l[i + 1]) : l.Pairwise gapR := by
  rw [List.pairwise_iff_getElem]
  intro i j hi hj hij
  obtain ⟨n, rfl⟩ : ∃ n, j = i + 1 + n := ⟨j - (i + 1), by omega⟩
  induction n with
  | zero => exact h i hj
  | succ n ih =>
    have h1 := ih (by omega) (by omega)
    have h2 := h (i + 1 + n) (by omega)
    have h3 := hle l[i + 1 + n] (List.getElem_mem (by omega))
    unfold gapR at *
    have : l[i + 1 + n + 1] = l[i + 1 + (n + 1)] := rfl
    rw [← this]
    omega
theorem nrm_of {f : Int} {l : List SP} (hin : ∀ s ∈ l, inSP s) (hg : goodL f l = true) (hn : nrmL l = true) : Nrm f l := by
  have hv : ∀ s ∈ l, Vf f s := by
    intro s hs
    obtain ⟨i, hi, rfl⟩ := List.mem_iff_getElem.1 hs
    exact vf_of (any_iff.1 hg i hi) (hin _ hs)
  refine ⟨hv, gap_of (fun s hs => (hv s hs).le) fun i hi => ?_⟩
  have h1 := hv _ (List.getElem_mem hi)
  have h2 := hv _ (List.getElem_mem (show i < l.length by omega))
  exact (aftB_iff h1.a h2.b).1 (nrmL_iff.1 hn i hi)
/-- A normal list is told by its elements. -/
theorem nrm_eq {f : Int} : ∀ {l m : List SP}, Nrm f l → Nrm f m → (∀ N, mem l N ↔ mem m N) → l = m
  | [], [], _, _, _ => rfl
  | s :: l, [], hl, _, h => absurd ((h s.lo).1 (mem_cons.2 (.inl ⟨Int.le_refl _, (hl.v s (by simp)).le⟩))) mem_nil
  | [], t :: m, _, hm, h => absurd ((h t.lo).2 (mem_cons.2 (.inl ⟨Int.le_refl _, (hm.v t (by simp)).le⟩))) mem_nil
  | s :: l, t :: m, hl, hm, h => by
    have vs := hl.v s (by simp)
    have vt := hm.v t (by simp)
    obtain ⟨ps, pl⟩ := List.pairwise_cons.1 hl.p
    obtain ⟨pt, pm⟩ := List.pairwise_cons.1 hm.p
    have hle := vs.le
    have hle' := vt.le
    have tail : ∀ (x y : SP) (k : List SP), (∀ u ∈ k, gapR x u) → ∀ N, mem k N → x.hi + 1 < N := by
      rintro x y k hk N ⟨u, hu, h1, h2⟩
      have := hk u hu
      unfold gapR at this
      omega
    have e1 : s.lo = t.lo := by
      have a1 := (h s.lo).1 (mem_cons.2 (.inl ⟨Int.le_refl _, hle⟩))
      have a2 := (h t.lo).2 (mem_cons.2 (.inl ⟨Int.le_refl _, hle'⟩))
      rcases mem_cons.1 a1 with a1 | a1
      · rcases mem_cons.1 a2 with a2 | a2
        · omega
        · have := tail s s l ps _ a2; omega
      · have := tail t t m pt _ a1
        rcases mem_cons.1 a2 with a2 | a2
        · omega
        · have := tail s s l ps _ a2; omega
    have e2 : s.hi = t.hi := by
      rcases Int.lt_trichotomy s.hi t.hi with g | g | g
      · have a1 := (h (s.hi + 1)).2 (mem_cons.2 (.inl ⟨by omega, by omega⟩))
        rcases mem_cons.1 a1 with a1 | a1
        · omega
        · have := tail s s l ps _ a1; omega
      · exact g
      · have a1 := (h (t.hi + 1)).1 (mem_cons.2 (.inl ⟨by omega, by omega⟩))
        rcases mem_cons.1 a1 with a1 | a1
        · omega
        · have := tail t t m pt _ a1; omega
    have e := vs.inj vt e1 e2
    subst e
    congr 1
    refine nrm_eq ⟨fun u hu => hl.v u (by simp [hu]), pl⟩ ⟨fun u hu => hm.v u (by simp [hu]), pm⟩ fun N => ?_
    constructor
    · intro hN
      have g := tail s s l ps _ hN
      rcases mem_cons.1 ((h N).1 (mem_cons.2 (.inr hN))) with a | a
      · omega
      · exact a
    · intro hN
      have g := tail s s m pt _ hN
      rcases mem_cons.1 ((h N).2 (mem_cons.2 (.inr hN))) with a | a
      · omega
      · exact a
theorem nrm_nil {f : Int} {l : List SP} (hl : Nrm f l) : l = [] ↔ ∀ N, ¬ mem l N := by
  constructor
  · rintro rfl N; exact mem_nil
  · intro h
    exact nrm_eq hl ⟨fun s hs => (by cases hs), List.Pairwise.nil⟩ fun N => ⟨fun hN => absurd hN (h N), fun hN => absurd hN mem_nil⟩
theorem mem_rng {f : Int} {l : List SP} (hl : ∀ s ∈ l, Vf f s) {N : Int} (h : mem l N) : 0 ≤ N ∧ N < 2 ^ widN f := by
  obtain ⟨s, hs, h1, h2⟩ := h
  have := hl s hs
  exact ⟨Int.le_trans this.nn h1, Int.lt_of_le_of_lt h2 this.lt⟩
/-! The difference, run by run. -/
theorem mstep_num {f fr : Int} {s x : SP} {m : MSt} (hs : Vf f s) (hx : Vf f x) (ho : m.o = true → inA m.h m.l ∧ numA (m.h, m.l) = fr) :
    ((m.o = false ∨ x.hi < fr ∨ s.hi < x.lo) → mstep s m x = m) ∧
    (m.o = true → fr ≤ x.hi → x.lo ≤ s.hi → 0 ≤ fr → ((mstep s m x).o = true ↔ x.hi + 1 ≤ s.hi) ∧ ((mstep s m x).o = true → inA (mstep s m x).h (mstep s m x).l ∧ numA ((mstep s m x).h, (mstep s m x).l) = x.hi + 1) ∧
      ((fr < x.lo ∧ ∃ t, (mstep s m x).out = m.out ++ [t] ∧ Vf f t ∧ t.lo = fr ∧ t.hi = x.lo - 1) ∨ (x.lo ≤ fr ∧ (mstep s m x).out = m.out))) := by
  have ex1 : numA (x.h, x.l) = x.lo := rfl
  have ex2 : numA (x.h', x.l') = x.hi := rfl
  have es2 : numA (s.h', s.l') = s.hi := rfl
  constructor
  · intro h
    unfold mstep
    rw [if_pos]
    rcases h with h | h | h
    · exact .inr (.inr h)
    · by_cases hm : m.o = true
      · obtain ⟨h1, h2⟩ := ho hm
        refine .inl ((cmpA_lt hx.b h1).2 ?_)
        rw [h2, ex2]; exact h
      · exact .inr (.inr (by simpa using hm))
    · exact .inr (.inl ((cmpA_gt hx.a hs.b).2 (by rw [ex1, es2]; exact h)))
  · intro hm h1 h2 h3
    obtain ⟨g1, g2⟩ := ho hm
    have e : ¬ (cmpA x.h' x.l' m.h m.l < 0 ∨ 0 < cmpA x.h x.l s.h' s.l' ∨ m.o = false) := by
      rintro (c | c | c)
      · have := (cmpA_lt hx.b g1).1 c; omega
      · have := (cmpA_gt hx.a hs.b).1 c; omega
      · rw [hm] at c; cases c
    have hn := nextA_num hx.b (cAddr6 x.h' x.l')
    have hp := prevA_num hx.a
    have hw : widN 6 = 128 := rfl
    rw [hw] at hn
    have hS := numA_lt hs.b (cAddr6 s.h' s.l')
    rw [hw] at hS
    unfold mstep
    rw [if_neg e]
    simp only
    refine ⟨?_, ?_, ?_⟩
    · rcases ltge (numA (x.h', x.l') + 1) (2 ^ 128) with hl | hl
      · obtain ⟨u, v, e1, e2, e3⟩ := hn.1 hl
        rw [e1]
        simp only [Bool.true_and, decide_eq_true_eq]
        rw [cmpA_le e3 hs.b, e2]
        exact Iff.rfl
      · rw [hn.2 hl]
        simp only [Bool.false_and, Bool.false_eq_true, false_iff]
        omega
    · rcases ltge (numA (x.h', x.l') + 1) (2 ^ 128) with hl | hl
      · obtain ⟨u, v, e1, e2, e3⟩ := hn.1 hl
        rw [e1]
        exact fun _ => ⟨e3, e2⟩
      · rw [hn.2 hl]
        simp only [Bool.false_and, Bool.false_eq_true, false_implies]
    · rcases ltge fr x.lo with hl | hl
      · left
        obtain ⟨u, v, e1, e2, e3⟩ := hp.1 (by omega)
        refine ⟨hl, ⟨m.h, m.l, u, v⟩, ?_, ?_, g2, e2⟩
        · rw [e1, if_pos]
          refine ⟨rfl, (cmpA_le g1 e3).2 ?_⟩
          omega
        · refine Vf.mk' hx.f46 g1 e3 ?_ ?_
          · show numA (m.h, m.l) ≤ numA (u, v); omega
          · have := hx.lt
            have := hx.le
            refine Int.lt_of_le_of_lt (b := x.hi) ?_ hx.lt
            show numA (u, v) ≤ _; omega
      · right
        refine ⟨hl, ?_⟩
        rw [if_neg]
        rintro ⟨c1, c2⟩
        rcases Int.lt_or_le 0 (numA (x.h, x.l)) with hz | hz
        · obtain ⟨u, v, e1, e2, e3⟩ := hp.1 hz
          rw [e1] at c2
          have := (cmpA_le g1 e3).1 c2
          omega
        · rw [hp.2 (by have := hx.nn; omega)] at c1
          cases c1
structure MI (f : Int) (s : SP) (out0 d : List SP) (m : MSt) (fr : Int) : Prop where
  o1 : m.o = true → inA m.h m.l ∧ numA (m.h, m.l) = fr ∧ s.lo ≤ fr ∧ fr ≤ s.hi
  o2 : m.o = true → ∀ x ∈ d, x.hi < fr ∨ s.hi < x.lo
  o3 : m.o = true → fr = s.lo ∨ ∃ x ∈ d, fr = x.hi + 1
  o4 : m.o = false → ∃ x ∈ d, s.hi ≤ x.hi
  v : ∀ t ∈ m.out, Vf f t
  p : m.out.Pairwise gapR
  h1 : ∀ t ∈ m.out, m.o = true → t.hi + 1 < fr
  h2 : ∀ t ∈ m.out, t.hi ≤ s.hi
  mm : ∀ N, mem m.out N ↔ mem out0 N ∨ (s.lo ≤ N ∧ N ≤ s.hi ∧ ¬ mem d N ∧ (m.o = true → N < fr))
theorem MI_step {f fr : Int} {s x : SP} {out0 d : List SP} {m : MSt} (hs : Vf f s) (hx : Vf f x) (hd : ∀ y ∈ d, gapR y x) (h : MI f s out0 d m fr) : ∃ fr', MI f s out0 (d ++ [x]) (mstep s m x) fr' := by
  have hxl := hx.le
  have hsl := hs.le
  have hsn := hs.nn
  have old : ∀ N, N < fr → m.o = true → s.lo ≤ N → ¬ (x.lo ≤ N ∧ N ≤ x.hi) := by
    intro N hN hm hl hc
    rcases h.o3 hm with e | ⟨y, hy, e⟩
    · omega
    · have := hd y hy
      unfold gapR at this
      omega
  obtain ⟨k1, k2⟩ := mstep_num (m := m) (fr := fr) hs hx (fun hm => ⟨(h.o1 hm).1, (h.o1 hm).2.1⟩)
  by_cases c : m.o = false ∨ x.hi < fr ∨ s.hi < x.lo
  · rw [k1 c]
    refine ⟨fr, h.o1, ?_, ?_, ?_, h.v, h.p, h.h1, h.h2, ?_⟩
    · intro hm y hy
      rcases List.mem_append.1 hy with hy | hy
      · exact h.o2 hm y hy
      · simp only [List.mem_singleton] at hy
        subst hy
        rcases c with c | c
        · rw [hm] at c; cases c
        · exact c
    · intro hm
      rcases h.o3 hm with e | ⟨y, hy, e⟩
      · exact .inl e
      · exact .inr ⟨y, by simp [hy], e⟩
    · intro hm
      obtain ⟨y, hy, e⟩ := h.o4 hm
      exact ⟨y, by simp [hy], e⟩
    · intro N
      rw [h.mm N, mem_append, mem_one]
      have key : s.lo ≤ N → N ≤ s.hi → (m.o = true → N < fr) → ¬ (x.lo ≤ N ∧ N ≤ x.hi) := by
        intro a1 a2 a3 a4
        cases hm : m.o
        · obtain ⟨y, hy, e⟩ := h.o4 hm
          have := hd y hy
          unfold gapR at this
          omega
        · exact old N (a3 hm) hm a1 a4
      constructor
      · rintro (a | ⟨a1, a2, a3, a4⟩)
        · exact .inl a
        · exact .inr ⟨a1, a2, fun hc => hc.elim a3 (key a1 a2 a4), a4⟩
      · rintro (a | ⟨a1, a2, a3, a4⟩)
        · exact .inl a
        · exact .inr ⟨a1, a2, fun hc => a3 (.inl hc), a4⟩
  · have hm : m.o = true := by
      cases hm : m.o
      · exact absurd (.inl hm) c
      · rfl
    have c1 : fr ≤ x.hi := by
      rcases Int.lt_or_le x.hi fr with g | g
      · exact absurd (.inr (.inl g)) c
      · exact g
    have c2 : x.lo ≤ s.hi := by
      rcases Int.lt_or_le s.hi x.lo with g | g
      · exact absurd (.inr (.inr g)) c
      · exact g
    obtain ⟨q1, q2, q3, q4⟩ := h.o1 hm
    obtain ⟨p1, p2, p3⟩ := k2 hm c1 c2 (by omega)
    generalize mstep s m x = m' at *
    have hmm : ∀ N, mem m'.out N ↔ mem m.out N ∨ (fr ≤ N ∧ N < x.lo) := by
      intro N
      rcases p3 with ⟨g, t, e1, e2, e3, e4⟩ | ⟨g, e⟩
      · rw [e1, mem_append, mem_one, e3, e4]
        constructor
        · rintro (a | a)
          · exact .inl a
          · exact .inr ⟨a.1, by omega⟩
        · rintro (a | a)
          · exact .inl a
          · exact .inr ⟨a.1, by omega⟩
      · rw [e]
        constructor
        · exact .inl
        · rintro (a | a)
          · exact a
          · omega
    have hin : ∀ t ∈ m'.out, t ∈ m.out ∨ (Vf f t ∧ t.lo = fr ∧ t.hi = x.lo - 1 ∧ fr < x.lo) := by
      intro t ht
      rcases p3 with ⟨g, t', e1, e2, e3, e4⟩ | ⟨g, e⟩
      · rw [e1] at ht
        rcases List.mem_append.1 ht with ht | ht
        · exact .inl ht
        · simp only [List.mem_singleton] at ht
          subst ht
          exact .inr ⟨e2, e3, e4, g⟩
      · rw [e] at ht; exact .inl ht
    refine ⟨x.hi + 1, ?_, ?_, ?_, ?_, ?_, ?_, ?_, ?_, ?_⟩
    · intro ho
      have := p2 ho
      have := p1.1 ho
      exact ⟨(p2 ho).1, (p2 ho).2, by omega, by omega⟩
    · intro ho y hy
      rcases List.mem_append.1 hy with hy | hy
      · have := hd y hy
        unfold gapR at this
        left; omega
      · simp only [List.mem_singleton] at hy
        subst hy
        left; omega
    · intro ho
      exact .inr ⟨x, by simp, rfl⟩
    · intro ho
      refine ⟨x, by simp, ?_⟩
      rcases Int.lt_or_le x.hi s.hi with g | g
      · have := p1.2 (by omega)
        rw [ho] at this; cases this
      · exact g
    · intro t ht
      rcases hin t ht with a | a
      · exact h.v t a
      · exact a.1
    · rcases p3 with ⟨g, t', e1, e2, e3, e4⟩ | ⟨g, e⟩
      · rw [e1]
        refine List.pairwise_append.2 ⟨h.p, List.pairwise_singleton _ _, fun u hu w hw => ?_⟩
        simp only [List.mem_singleton] at hw
        subst hw
        have := h.h1 u hu hm
        unfold gapR
        omega
      · rw [e]; exact h.p
    · intro t ht ho
      rcases hin t ht with a | a
      · have := h.h1 t a hm; omega
      · omega
    · intro t ht
      rcases hin t ht with a | a
      · exact h.h2 t a
      · omega
    · intro N
      rw [hmm N, h.mm N, mem_append, mem_one]
      constructor
      · rintro ((a | ⟨a1, a2, a3, a4⟩) | ⟨a1, a2⟩)
        · exact .inl a
        · have := a4 hm
          exact .inr ⟨a1, a2, fun hc => hc.elim a3 (old N this hm a1), fun _ => by omega⟩
        · refine .inr ⟨by omega, by omega, ?_, fun _ => by omega⟩
          rintro (⟨y, hy, b1, b2⟩ | b)
          · rcases h.o2 hm y hy with b | b <;> omega
          · omega
      · rintro (a | ⟨a1, a2, a3, a4⟩)
        · exact .inl (.inl a)
        · rcases Int.lt_or_le N fr with g | g
          · exact .inl (.inr ⟨a1, a2, fun hc => a3 (.inl hc), fun _ => g⟩)
          · right
            refine ⟨g, ?_⟩
            rcases Int.lt_or_le N x.lo with g2 | g2
            · exact g2
            · exfalso
              have g3 : ¬ N ≤ x.hi := fun g3 => a3 (.inr ⟨g2, g3⟩)
              have : x.hi + 1 ≤ s.hi := by omega
              have := a4 (p1.2 this)
              omega
theorem MI_fold {f : Int} {s : SP} {out0 : List SP} (hs : Vf f s) : ∀ (b d : List SP) (m : MSt) (fr : Int), (∀ x ∈ b, Vf f x) → (d ++ b).Pairwise gapR → MI f s out0 d m fr → ∃ fr', MI f s out0 (d ++ b) (b.foldl (mstep s) m) fr'
  | [], d, m, fr, _, _, h => ⟨fr, by simpa using h⟩
  | x :: b, d, m, fr, hb, hp, h => by
    have hd : ∀ y ∈ d, gapR y x := fun y hy => (List.pairwise_append.1 hp).2.2 y hy x (by simp)
    obtain ⟨fr', h'⟩ := MI_step hs (hb x (by simp)) hd h
    have := MI_fold hs b (d ++ [x]) (mstep s m x) fr' (fun y hy => hb y (by simp [hy])) (by simpa using hp) h'
    simpa using this
theorem m1_spec {f : Int} {s : SP} {b out : List SP} (hs : Vf f s) (hb : Nrm f b) (hv : ∀ t ∈ out, Vf f t) (hp : out.Pairwise gapR) (hlt : ∀ t ∈ out, t.hi + 1 < s.lo) :
    (∀ t ∈ m1 b out s, Vf f t ∧ t.hi ≤ s.hi) ∧ (m1 b out s).Pairwise gapR ∧ ∀ N, mem (m1 b out s) N ↔ mem out N ∨ ((s.lo ≤ N ∧ N ≤ s.hi) ∧ ¬ mem b N) := by
  have hsl := hs.le
  obtain ⟨fr, h⟩ := MI_fold (out0 := out) hs b [] ⟨s.h, s.l, true, out⟩ s.lo hb.v (by simpa using hb.p)
    ⟨fun _ => ⟨hs.a, rfl, Int.le_refl _, hs.le⟩, fun _ x hx => (by cases hx), fun _ => .inl rfl, fun h => (by cases h), hv, hp, fun t ht _ => hlt t ht, fun t ht => by have := hlt t ht; omega,
      fun N => ⟨.inl, fun h => h.elim id fun h => absurd (h.2.2.2 rfl) (by omega)⟩⟩
  rw [List.nil_append] at h
  have e : b.foldl (mstep s) ⟨s.h, s.l, true, out⟩ = mfold s b out := rfl
  rw [e] at h
  unfold m1
  generalize mfold s b out = m at *
  cases hm : m.o
  · rw [if_neg (by simp)]
    refine ⟨fun t ht => ⟨h.v t ht, h.h2 t ht⟩, h.p, fun N => ?_⟩
    rw [h.mm N]
    constructor
    · rintro (a | ⟨a1, a2, a3, a4⟩)
      · exact .inl a
      · exact .inr ⟨⟨a1, a2⟩, a3⟩
    · rintro (a | ⟨⟨a1, a2⟩, a3⟩)
      · exact .inl a
      · exact .inr ⟨a1, a2, a3, fun hc => by rw [hm] at hc; cases hc⟩
  · rw [if_pos rfl]
    obtain ⟨q1, q2, q3, q4⟩ := h.o1 hm
    have elo : SP.lo ⟨m.h, m.l, s.h', s.l'⟩ = fr := q2
    have ehi : SP.hi ⟨m.h, m.l, s.h', s.l'⟩ = s.hi := rfl
    refine ⟨fun t ht => ?_, ?_, fun N => ?_⟩
    · rcases List.mem_append.1 ht with ht | ht
      · exact ⟨h.v t ht, h.h2 t ht⟩
      · simp only [List.mem_singleton] at ht
        subst ht
        exact ⟨Vf.mk' hs.f46 q1 hs.b (by rw [elo, ehi]; exact q4) hs.lt, Int.le_refl _⟩
    · refine List.pairwise_append.2 ⟨h.p, List.pairwise_singleton _ _, fun u hu w hw => ?_⟩
      simp only [List.mem_singleton] at hw
      subst hw
      have := h.h1 u hu hm
      unfold gapR
      rw [elo]
      exact this
    · rw [mem_append, mem_one, h.mm N, elo, ehi]
      constructor
      · rintro ((a | ⟨a1, a2, a3, a4⟩) | ⟨a1, a2⟩)
        · exact .inl a
        · exact .inr ⟨⟨a1, a2⟩, a3⟩
        · refine .inr ⟨⟨by omega, a2⟩, ?_⟩
          rintro ⟨y, hy, b1, b2⟩
          rcases h.o2 hm y hy with b | b <;> omega
      · rintro (a | ⟨⟨a1, a2⟩, a3⟩)
        · exact .inl (.inl a)
        · rcases Int.lt_or_le N fr with g | g
          · exact .inl (.inr ⟨a1, a2, a3, fun _ => g⟩)
          · exact .inr ⟨g, a2⟩
theorem minS_fold {f : Int} {b : List SP} (hb : Nrm f b) : ∀ (a out : List SP), Nrm f a → Nrm f out → (∀ t ∈ out, ∀ s ∈ a, t.hi + 1 < s.lo) →
    Nrm f (a.foldl (m1 b) out) ∧ ∀ N, mem (a.foldl (m1 b) out) N ↔ mem out N ∨ (mem a N ∧ ¬ mem b N)
  | [], out, _, ho, _ => ⟨ho, fun N => ⟨.inl, fun h => h.elim id fun h => absurd h.1 mem_nil⟩⟩
  | s :: a, out, ha, ho, hx => by
    obtain ⟨ps, pa⟩ := List.pairwise_cons.1 ha.p
    obtain ⟨k1, k2, k3⟩ := m1_spec (ha.v s (by simp)) hb ho.v ho.p (fun t ht => hx t ht s (by simp))
    obtain ⟨r1, r2⟩ := minS_fold hb a (m1 b out s) ⟨fun t ht => ha.v t (by simp [ht]), pa⟩ ⟨fun t ht => (k1 t ht).1, k2⟩ (fun t ht u hu => by
      have := (k1 t ht).2
      have := ps u hu
      unfold gapR at this
      omega)
    refine ⟨r1, fun N => ?_⟩
    rw [List.foldl_cons, r2 N, k3 N, mem_cons]
    constructor
    · rintro ((a | ⟨a1, a2⟩) | ⟨a1, a2⟩)
      · exact .inl a
      · exact .inr ⟨.inl a1, a2⟩
      · exact .inr ⟨.inr a1, a2⟩
    · rintro (a | ⟨a1 | a1, a2⟩)
      · exact .inl (.inl a)
      · exact .inl (.inr ⟨a1, a2⟩)
      · exact .inr ⟨a1, a2⟩
/-- The difference holds what is in a and not in b. -/
theorem minS_spec {f : Int} {a b : List SP} (ha : Nrm f a) (hb : Nrm f b) : Nrm f (minS a b) ∧ ∀ N, mem (minS a b) N ↔ mem a N ∧ ¬ mem b N := by
  obtain ⟨h1, h2⟩ := minS_fold hb a [] ha ⟨fun s hs => (by cases hs), List.Pairwise.nil⟩ (fun t ht => by cases ht)
  exact ⟨h1, fun N => (h2 N).trans ⟨fun h => h.resolve_left mem_nil, .inr⟩⟩
end Go.Proofs.Ytkcmgjagjbiinaa.AL
namespace Go.Proofs.Ytkcmgjagjbiinaa.AL
open Go
/-! The reference's operations, edge by edge. -/
def holdP (d : Int) (A B : Prop) : Prop := if d = 0 then A ∨ B else if d = 1 then A ∧ B else A ∧ ¬ B
theorem holdP_or {d : Int} {A B : Prop} (h : holdP d A B) : A ∨ B := by
  unfold holdP at h
  split at h
  · exact h
  · split at h
    · exact .inl h.1
    · exact .inl h.1
theorem hold_iff {d : Int} {a b : Bool} {A B : Prop} (ha : a = true ↔ A) (hb : b = true ↔ B) : hold d a b = true ↔ holdP d A B := by
  unfold hold holdP
  split
  · rw [Bool.or_eq_true, ha, hb]
  · split
    · rw [Bool.and_eq_true, ha, hb]
    · rw [Bool.and_eq_true, ha, Bool.not_eq_true', Bool.eq_false_iff, ne_eq, hb]
theorem holdP_congr {d : Int} {A B A' B' : Prop} (ha : A ↔ A') (hb : B ↔ B') : holdP d A B ↔ holdP d A' B' := by
  rw [propext ha, propext hb]
theorem inLA_mem {f : Int} {l : List SP} (hl : ∀ s ∈ l, Vf f s) {p : Int × Int} (hp : inA p.1 p.2) : inLA l p = true ↔ mem l (numA p) := by
  unfold inLA mem
  rw [List.any_eq_true]
  constructor
  · rintro ⟨s, hs, h⟩
    unfold inS at h
    rw [Bool.and_eq_true, decide_eq_true_eq, decide_eq_true_eq, cmpA_le (hl s hs).a hp, cmpA_le hp (hl s hs).b] at h
    exact ⟨s, hs, h⟩
  · rintro ⟨s, hs, h⟩
    refine ⟨s, hs, ?_⟩
    unfold inS
    rw [Bool.and_eq_true, decide_eq_true_eq, decide_eq_true_eq, cmpA_le (hl s hs).a hp, cmpA_le hp (hl s hs).b]
    exact h
def ltR (p q : Int × Int) : Prop := numA p < numA q
structure Inc (f : Int) (E : List (Int × Int)) : Prop where
  v : ∀ p ∈ E, inA p.1 p.2 ∧ cAddr f p.1 p.2 = true
  p : E.Pairwise ltR
theorem insA_inc {f : Int} {a : Int × Int} (ha : inA a.1 a.2 ∧ cAddr f a.1 a.2 = true) : ∀ {E : List (Int × Int)}, Inc f E → Inc f (insA E a)
  | [], _ => ⟨fun p hp => by simp [insA] at hp; subst hp; exact ha, by simp [insA]⟩
  | x :: l, h => by
    obtain ⟨px, pl⟩ := List.pairwise_cons.1 h.p
    have hx := h.v x (by simp)
    have hl : Inc f l := ⟨fun p hp => h.v p (by simp [hp]), pl⟩
    refine ⟨fun p hp => ?_, ?_⟩
    · rcases insA_mem.1 hp with rfl | hp
      · exact ha
      · exact h.v p hp
    · unfold insA
      split
      · rename_i c
        have c' := (cmpA_lt hx.1 ha.1).1 c
        refine List.pairwise_cons.2 ⟨fun q hq => ?_, (insA_inc ha hl).p⟩
        rcases insA_mem.1 hq with rfl | hq
        · exact c'
        · exact px q hq
      · rename_i c
        split
        · exact h.p
        · rename_i ne
          have c' : numA a ≤ numA x := by
            rcases Int.lt_or_le (numA x) (numA a) with g | g
            · exact absurd ((cmpA_lt hx.1 ha.1).2 g) c
            · exact g
          have c2 : numA a ≠ numA x := fun e => ne (numA_inj ⟨hx.1.2.2.1, hx.1.2.2.2⟩ ⟨ha.1.2.2.1, ha.1.2.2.2⟩ e.symm)
          refine List.pairwise_cons.2 ⟨fun q hq => ?_, h.p⟩
          rcases List.mem_cons.1 hq with rfl | hq
          · show numA _ < numA _; omega
          · have := px q hq
            unfold ltR at *
            omega
theorem edg_fold {f : Int} : ∀ (l : List SP) (E : List (Int × Int)), (∀ s ∈ l, Vf f s) → Inc f E →
    Inc f (l.foldl (edgStep f) E) ∧ (∀ p ∈ E, p ∈ l.foldl (edgStep f) E) ∧ ∀ s ∈ l, (∃ p ∈ l.foldl (edgStep f) E, numA p = s.lo) ∧ (s.hi + 1 < 2 ^ widN f → ∃ p ∈ l.foldl (edgStep f) E, numA p = s.hi + 1)
  | [], E, _, hE => ⟨hE, fun p hp => hp, fun s hs => by cases hs⟩
  | s :: l, E, hl, hE => by
    have hs := hl s (by simp)
    have h1 : Inc f (insA E (s.h, s.l)) := insA_inc ⟨hs.a, hs.ca⟩ hE
    have hn := nextA_num hs.b hs.cb
    have key : Inc f (edgStep f E s) ∧ (∀ p ∈ E, p ∈ edgStep f E s) ∧ (∃ p ∈ edgStep f E s, numA p = s.lo) ∧ (s.hi + 1 < 2 ^ widN f → ∃ p ∈ edgStep f E s, numA p = s.hi + 1) := by
      unfold edgStep
      rcases ltge (numA (s.h', s.l') + 1) (2 ^ widN f) with g | g
      · obtain ⟨u, v, e1, e2, e3⟩ := hn.1 g
        rw [e1]
        simp only [if_true]
        have hcv : cAddr f u v = true := cAddr_num hs.f46 e3 (by rw [e2]; exact g)
        refine ⟨insA_inc ⟨e3, hcv⟩ h1, fun p hp => insA_mem.2 (.inr (insA_mem.2 (.inr hp))), ⟨_, insA_mem.2 (.inr (insA_mem.2 (.inl rfl))), rfl⟩, fun _ => ⟨_, insA_mem.2 (.inl rfl), e2⟩⟩
      · rw [hn.2 g]
        simp only [Bool.false_eq_true, if_false]
        refine ⟨h1, fun p hp => insA_mem.2 (.inr hp), ⟨_, insA_mem.2 (.inl rfl), rfl⟩, fun c => ?_⟩
        have : numA (s.h', s.l') = s.hi := rfl
        omega
    obtain ⟨k1, k2, k3, k4⟩ := key
    obtain ⟨r1, r2, r3⟩ := edg_fold l (edgStep f E s) (fun t ht => hl t (by simp [ht])) k1
    rw [List.foldl_cons]
    refine ⟨r1, fun p hp => r2 p (k2 p hp), fun t ht => ?_⟩
    rcases List.mem_cons.1 ht with rfl | ht
    · refine ⟨?_, fun c => ?_⟩
      · obtain ⟨p, hp, e⟩ := k3; exact ⟨p, r2 p hp, e⟩
      · obtain ⟨p, hp, e⟩ := k4 c; exact ⟨p, r2 p hp, e⟩
    · exact r3 t ht
def bnd (f : Int) (E : List (Int × Int)) (k : Nat) : Int := if h : k < E.length then numA E[k] else 2 ^ widN f
theorem bnd_lt {f : Int} {E : List (Int × Int)} (h : Inc f E) {i k : Nat} (hi : i < E.length) (hik : i < k) : numA E[i] < bnd f E k := by
  unfold bnd
  split
  · rename_i hk
    exact List.pairwise_iff_getElem.1 h.p i k hi hk hik
  · have := h.v _ (List.getElem_mem hi)
    exact (numA_lt this.1 this.2).2
theorem bnd_le {f : Int} {E : List (Int × Int)} (h : Inc f E) {i k : Nat} (hi : i < E.length) (hik : i ≤ k) : numA E[i] ≤ bnd f E k := by
  rcases Nat.lt_or_ge i k with g | g
  · exact Int.le_of_lt (bnd_lt h hi g)
  · have : i = k := by omega
    subst this
    unfold bnd
    rw [dif_pos hi]
    exact Int.le_refl _
/-- Between two edges nothing changes. -/
theorem mem_const {f : Int} {E : List (Int × Int)} (hE : Inc f E) {l : List SP} (hl : ∀ s ∈ l, Vf f s) (he : ∀ s ∈ l, (∃ p ∈ E, numA p = s.lo) ∧ (s.hi + 1 < 2 ^ widN f → ∃ p ∈ E, numA p = s.hi + 1)) {k : Nat} (hk : k < E.length) {N : Int} (h1 : numA E[k] ≤ N) (h2 : N < bnd f E (k + 1)) : mem l N ↔ mem l (numA E[k]) := by
  have hbl : bnd f E (k + 1) ≤ 2 ^ widN f := by
    unfold bnd
    split
    · rename_i h
      have := hE.v _ (List.getElem_mem h)
      exact Int.le_of_lt (numA_lt this.1 this.2).2
    · exact Int.le_refl _
  have key : ∀ s ∈ l, (s.lo ≤ N ∧ N ≤ s.hi) ↔ (s.lo ≤ numA E[k] ∧ numA E[k] ≤ s.hi) := by
    intro s hs
    obtain ⟨⟨p, hp, e1⟩, e2⟩ := he s hs
    obtain ⟨i, hi, rfl⟩ := List.mem_iff_getElem.1 hp
    have hlt := (hl s hs).lt
    constructor
    · rintro ⟨a1, a2⟩
      refine ⟨?_, by omega⟩
      rcases Nat.lt_or_ge k i with g | g
      · exfalso
        have : bnd f E (k + 1) ≤ numA E[i] := by
          unfold bnd
          rw [dif_pos (by omega)]
          rcases Nat.lt_or_ge (k + 1) i with g2 | g2
          · exact Int.le_of_lt (List.pairwise_iff_getElem.1 hE.p (k + 1) i (by omega) hi g2)
          · have : i = k + 1 := by omega
            subst this; exact Int.le_refl _
        omega
      · have := bnd_le hE hi g
        unfold bnd at this
        rw [dif_pos hk] at this
        omega
    · rintro ⟨a1, a2⟩
      refine ⟨by omega, ?_⟩
      rcases ltge (s.hi + 1) (2 ^ widN f) with g | g
      · obtain ⟨q, hq, e3⟩ := e2 g
        obtain ⟨j, hj, rfl⟩ := List.mem_iff_getElem.1 hq
        have hkj : k < j := by
          rcases Nat.lt_or_ge k j with g2 | g2
          · exact g2
          · have := bnd_le hE hj g2
            unfold bnd at this
            rw [dif_pos hk] at this
            omega
        have : bnd f E (k + 1) ≤ numA E[j] := by
          unfold bnd
          rw [dif_pos (by omega)]
          rcases Nat.lt_or_ge (k + 1) j with g2 | g2
          · exact Int.le_of_lt (List.pairwise_iff_getElem.1 hE.p (k + 1) j (by omega) hj g2)
          · have : j = k + 1 := by omega
            subst this; exact Int.le_refl _
        omega
      · omega
  constructor
  · rintro ⟨s, hs, h⟩; exact ⟨s, hs, (key s hs).1 h⟩
  · rintro ⟨s, hs, h⟩; exact ⟨s, hs, (key s hs).2 h⟩
theorem doneTo_num {f : Int} (hf : f = 4 ∨ f = 6) {E : List (Int × Int)} (hE : Inc f E) (h0 : ∀ p ∈ E, 0 ≤ numA p) {k : Nat} (hk : k < E.length) : inA (doneTo f E k).1 (doneTo f E k).2 ∧ numA (doneTo f E k) = bnd f E (k + 1) - 1 := by
  unfold doneTo bnd
  by_cases h : k + 1 < E.length
  · rw [if_pos h, dif_pos h]
    have hv := hE.v _ (List.getElem_mem h)
    have hlt : numA E[k] < numA E[k + 1] := List.pairwise_iff_getElem.1 hE.p k (k + 1) hk h (by omega)
    have hz := h0 _ (List.getElem_mem hk)
    have hp := (prevA_num hv.1).1 (by show 0 < numA E[k + 1]; omega)
    obtain ⟨u, v, e1, e2, e3⟩ := hp
    have hg : E.getD (k + 1) (0, 0) = E[k + 1] := by simp [h]
    rw [hg, e1]
    exact ⟨e3, e2⟩
  · rw [if_neg h, dif_neg h]
    have hA : inA 0 0 := ⟨by omega, by omega, by omega, by omega⟩
    refine ⟨lastA_rng hA (widN_le f), ?_⟩
    have hl := lastA_num (h := 0) (l := 0) (by omega) (by omega) (widN f)
    rw [hl]
    have : numA ((0 : Int), 0) = 0 := rfl
    rw [this, Int.zero_ediv, Int.zero_mul]
    omega
structure DI (f d : Int) (a b : List SP) (E : List (Int × Int)) (k : Nat) (D : Bool × List SP) : Prop where
  v : ∀ t ∈ D.2, Vf f t
  p : D.2.Pairwise gapR
  m : ∀ N, mem D.2 N ↔ 0 ≤ N ∧ N < bnd f E k ∧ holdP d (mem a N) (mem b N)
  o1 : D.1 = true → ∃ o t, D.2 = o ++ [t] ∧ t.hi + 1 = bnd f E k
  o2 : D.1 = false → ∀ t ∈ D.2, t.hi + 1 < bnd f E k
theorem DI_step {f d : Int} (hf : f = 4 ∨ f = 6) {a b : List SP} {E : List (Int × Int)} (hE : Inc f E) (ha : ∀ s ∈ a, Vf f s) (hb : ∀ s ∈ b, Vf f s)
    (he : ∀ s ∈ a ++ b, (∃ p ∈ E, numA p = s.lo) ∧ (s.hi + 1 < 2 ^ widN f → ∃ p ∈ E, numA p = s.hi + 1)) {k : Nat} (hk : k < E.length) (h : DI f d a b E k (dstA d f a b E k)) : DI f d a b E (k + 1) (dstA d f a b E (k + 1)) := by
  have h0 : ∀ p ∈ E, 0 ≤ numA p := fun p hp => (numA_lt (hE.v p hp).1 (hE.v p hp).2).1
  obtain ⟨t1, t2⟩ := doneTo_num hf hE h0 hk
  have hkA := hE.v _ (List.getElem_mem hk)
  have hg : E.getD k (0, 0) = E[k] := by simp [hk]
  have hbk : bnd f E k = numA E[k] := by unfold bnd; rw [dif_pos hk]
  have hlt : numA E[k] < bnd f E (k + 1) := bnd_lt hE hk (by omega)
  have hbl : bnd f E (k + 1) ≤ 2 ^ widN f := by
    unfold bnd
    split
    · rename_i h
      have := hE.v _ (List.getElem_mem h)
      exact Int.le_of_lt (numA_lt this.1 this.2).2
    · exact Int.le_refl _
  have hz := h0 _ (List.getElem_mem hk)
  have his : doneIs d a b E k = true ↔ holdP d (mem a (numA E[k])) (mem b (numA E[k])) := by
    unfold doneIs
    rw [hg]
    exact hold_iff (inLA_mem ha hkA.1) (inLA_mem hb hkA.1)
  have hc : ∀ N, numA E[k] ≤ N → N < bnd f E (k + 1) → (holdP d (mem a N) (mem b N) ↔ doneIs d a b E k = true) := by
    intro N h1 h2
    rw [his]
    exact holdP_congr (mem_const hE ha (fun s hs => he s (by simp [hs])) hk h1 h2) (mem_const hE hb (fun s hs => he s (by simp [hs])) hk h1 h2)
  have hm := h.m
  rw [hbk] at hm
  have step : ∀ N, (0 ≤ N ∧ N < bnd f E (k + 1) ∧ holdP d (mem a N) (mem b N)) ↔ mem (dstA d f a b E k).2 N ∨ (doneIs d a b E k = true ∧ numA E[k] ≤ N ∧ N < bnd f E (k + 1)) := by
    intro N
    rw [hm N]
    constructor
    · rintro ⟨a1, a2, a3⟩
      rcases Int.lt_or_le N (numA E[k]) with g | g
      · exact .inl ⟨a1, g, a3⟩
      · exact .inr ⟨(hc N g a2).1 a3, g, a2⟩
    · rintro (⟨a1, a2, a3⟩ | ⟨a1, a2, a3⟩)
      · exact ⟨a1, by omega, a3⟩
      · exact ⟨by omega, a3, (hc N a2 a3).2 a1⟩
  have hle : ∀ t ∈ (dstA d f a b E k).2, t.hi + 1 ≤ numA E[k] := by
    intro t ht
    have := (h.v t ht).le
    have := (hm t.hi).1 ⟨t, ht, this, Int.le_refl _⟩
    omega
  have ho1 := h.o1
  have ho2 := h.o2
  have hv := h.v
  have hp := h.p
  rw [hbk] at ho1 ho2
  rw [dstA]
  generalize dstA d f a b E k = D at *
  cases hi : doneIs d a b E k
  · rw [if_neg (by simp)]
    refine ⟨hv, hp, fun N => ?_, fun c => (by cases c), fun _ t ht => ?_⟩
    · rw [step N, hi]
      simp
    · have := hle t ht
      show t.hi + 1 < _
      omega
  · rw [if_pos rfl]
    cases ho : D.1
    · rw [if_neg (by simp)]
      have g2 := ho2 ho
      have elo : SP.lo ⟨(E.getD k (0, 0)).1, (E.getD k (0, 0)).2, (doneTo f E k).1, (doneTo f E k).2⟩ = numA E[k] := by rw [hg]; rfl
      have ehi : SP.hi ⟨(E.getD k (0, 0)).1, (E.getD k (0, 0)).2, (doneTo f E k).1, (doneTo f E k).2⟩ = bnd f E (k + 1) - 1 := t2
      have hvf : Vf f ⟨(E.getD k (0, 0)).1, (E.getD k (0, 0)).2, (doneTo f E k).1, (doneTo f E k).2⟩ := by
        refine Vf.mk' hf (by rw [hg]; exact hkA.1) t1 ?_ ?_
        · rw [elo, ehi]; omega
        · rw [ehi]; omega
      generalize (⟨(E.getD k (0, 0)).1, (E.getD k (0, 0)).2, (doneTo f E k).1, (doneTo f E k).2⟩ : SP) = t at *
      refine ⟨fun u hu => ?_, ?_, fun N => ?_, fun _ => ⟨D.2, t, rfl, by omega⟩, fun c => (by cases c)⟩
      · rcases List.mem_append.1 hu with hu | hu
        · exact hv u hu
        · simp only [List.mem_singleton] at hu
          subst hu; exact hvf
      · refine List.pairwise_append.2 ⟨hp, List.pairwise_singleton _ _, fun u hu w hw => ?_⟩
        simp only [List.mem_singleton] at hw
        subst hw
        have := g2 u hu
        unfold gapR
        omega
      · rw [step N, hi, mem_append, mem_one, elo, ehi]
        constructor
        · rintro (a1 | a1)
          · exact .inl a1
          · exact .inr ⟨rfl, a1.1, by omega⟩
        · rintro (a1 | a1)
          · exact .inl a1
          · exact .inr ⟨a1.2.1, by omega⟩
    · rw [if_pos rfl]
      obtain ⟨o, t, e, et⟩ := ho1 ho
      have es : setTo D.2 (doneTo f E k) = o ++ [⟨t.h, t.l, (doneTo f E k).1, (doneTo f E k).2⟩] := by
        unfold setTo
        rw [e]
        simp
      rw [es]
      have htm : t ∈ D.2 := by rw [e]; simp
      have hvt := hv t htm
      have hle := hvt.le
      have elo : SP.lo ⟨t.h, t.l, (doneTo f E k).1, (doneTo f E k).2⟩ = t.lo := rfl
      have ehi : SP.hi ⟨t.h, t.l, (doneTo f E k).1, (doneTo f E k).2⟩ = bnd f E (k + 1) - 1 := t2
      have hvf : Vf f ⟨t.h, t.l, (doneTo f E k).1, (doneTo f E k).2⟩ := by
        refine Vf.mk' hf hvt.a t1 ?_ ?_
        · rw [elo, ehi]; omega
        · rw [ehi]; omega
      rw [e] at hp step
      obtain ⟨p1, p2, p3⟩ := List.pairwise_append.1 hp
      generalize (⟨t.h, t.l, (doneTo f E k).1, (doneTo f E k).2⟩ : SP) = t' at *
      refine ⟨fun u hu => ?_, ?_, fun N => ?_, fun _ => ⟨o, t', rfl, by omega⟩, fun c => (by cases c)⟩
      · rcases List.mem_append.1 hu with hu | hu
        · exact hv u (by rw [e]; simp [hu])
        · simp only [List.mem_singleton] at hu
          subst hu; exact hvf
      · refine List.pairwise_append.2 ⟨p1, List.pairwise_singleton _ _, fun u hu w hw => ?_⟩
        simp only [List.mem_singleton] at hw
        subst hw
        have := p3 u hu t (by simp)
        unfold gapR at *
        omega
      · rw [step N, hi, mem_append, mem_one, mem_append, mem_one, elo, ehi]
        constructor
        · rintro (a1 | a1)
          · exact .inl (.inl a1)
          · rcases Int.lt_or_le N (numA E[k]) with g | g
            · exact .inl (.inr ⟨a1.1, by omega⟩)
            · exact .inr ⟨rfl, g, by omega⟩
        · rintro ((a1 | a1) | a1)
          · exact .inl a1
          · exact .inr ⟨a1.1, by omega⟩
          · exact .inr ⟨by omega, by omega⟩
/-- The reference's operation holds what it should. -/
theorem doneL_spec {f d : Int} (hf : f = 4 ∨ f = 6) {a b : List SP} (ha : ∀ s ∈ a, Vf f s) (hb : ∀ s ∈ b, Vf f s) : Nrm f (doneL d f a b) ∧ ∀ N, mem (doneL d f a b) N ↔ holdP d (mem a N) (mem b N) := by
  have hab : ∀ s ∈ a ++ b, Vf f s := fun s hs => (List.mem_append.1 hs).elim (ha s) (hb s)
  have hA : inA 0 0 := ⟨by omega, by omega, by omega, by omega⟩
  have z0 : numA ((0 : Int), 0) = 0 := rfl
  have hinc : Inc f [((0 : Int), (0 : Int))] := by
    refine ⟨fun p hp => ?_, List.pairwise_singleton _ _⟩
    simp only [List.mem_singleton] at hp
    subst hp
    exact ⟨hA, cAddr_num hf hA (by rw [z0]; exact ipow_pos _)⟩
  obtain ⟨hE, h1, h2⟩ := edg_fold (a ++ b) [(0, 0)] hab hinc
  have eE : (a ++ b).foldl (edgStep f) [(0, 0)] = edgL f (a ++ b) := rfl
  rw [eE] at hE h1 h2
  unfold doneL
  generalize edgL f (a ++ b) = E at *
  have h0 : ((0 : Int), (0 : Int)) ∈ E := h1 _ (by simp)
  have key : ∀ k, k ≤ E.length → DI f d a b E k (dstA d f a b E k) := by
    intro k
    induction k with
    | zero =>
      intro _
      have hb0 : bnd f E 0 ≤ 0 := by
        obtain ⟨i, hi, e⟩ := List.mem_iff_getElem.1 h0
        have := bnd_le hE (i := 0) (k := i) (by omega) (by omega)
        unfold bnd at this ⊢
        rw [dif_pos hi, e, z0] at this
        rw [dif_pos (by omega)]
        exact this
      refine ⟨fun t ht => (by cases ht), List.Pairwise.nil, fun N => ⟨fun h => absurd h mem_nil, fun h => ?_⟩, fun c => (by cases c), fun _ t ht => (by cases ht)⟩
      have := h.1
      have := h.2.1
      omega
    | succ k ih =>
      intro hk
      exact DI_step hf hE ha hb h2 (by omega) (ih (by omega))
  have hfin := key E.length (Nat.le_refl _)
  refine ⟨⟨hfin.v, hfin.p⟩, fun N => ?_⟩
  rw [hfin.m N]
  have hbl : bnd f E E.length = 2 ^ widN f := by unfold bnd; rw [dif_neg (by omega)]
  rw [hbl]
  constructor
  · exact fun h => h.2.2
  · intro h
    have hr := (holdP_or h).elim (mem_rng ha) (mem_rng hb)
    exact ⟨hr.1, hr.2, h⟩
/-- The difference is the reference's. -/
theorem min_done {f : Int} (hf : f = 4 ∨ f = 6) {a b : List SP} (ha : Nrm f a) (hb : Nrm f b) : minS a b = doneL 2 f a b := by
  obtain ⟨h1, h2⟩ := minS_spec ha hb
  obtain ⟨g1, g2⟩ := doneL_spec (d := 2) hf ha.v hb.v
  refine nrm_eq h1 g1 fun N => ?_
  rw [h2 N, g2 N]
  exact Iff.rfl
/-- A run is in a normal list if both ends are in one of its runs. -/
theorem min_ends {f : Int} {s : SP} {l : List SP} (hs : Vf f s) (hl : Nrm f l) : (minS [s] l).isEmpty = endsD l s.h s.l s.h' s.l' := by
  have hn : Nrm f [s] := ⟨fun t ht => by simp only [List.mem_singleton] at ht; subst ht; exact hs, List.pairwise_singleton _ _⟩
  obtain ⟨h1, h2⟩ := minS_spec hn hl
  have hle := hs.le
  rw [Bool.eq_iff_iff, List.isEmpty_iff, nrm_nil h1]
  have hend : endsD l s.h s.l s.h' s.l' = true ↔ ∃ t ∈ l, t.lo ≤ s.lo ∧ s.hi ≤ t.hi := by
    unfold endsD
    rw [List.any_eq_true]
    constructor
    · rintro ⟨t, ht, h⟩
      have vt := hl.v t ht
      unfold inS at h
      rw [Bool.and_eq_true, Bool.and_eq_true, Bool.and_eq_true, decide_eq_true_eq, decide_eq_true_eq, decide_eq_true_eq, decide_eq_true_eq, cmpA_le vt.a hs.a, cmpA_le hs.a vt.b, cmpA_le vt.a hs.b, cmpA_le hs.b vt.b] at h
      exact ⟨t, ht, h.1.1, h.2.2⟩
    · rintro ⟨t, ht, a1, a2⟩
      have vt := hl.v t ht
      refine ⟨t, ht, ?_⟩
      unfold inS
      rw [Bool.and_eq_true, Bool.and_eq_true, Bool.and_eq_true, decide_eq_true_eq, decide_eq_true_eq, decide_eq_true_eq, decide_eq_true_eq, cmpA_le vt.a hs.a, cmpA_le hs.a vt.b, cmpA_le vt.a hs.b, cmpA_le hs.b vt.b]
      exact ⟨⟨a1, Int.le_trans hle a2⟩, ⟨Int.le_trans a1 hle, a2⟩⟩
  rw [hend]
  constructor
  · intro h
    have all : ∀ N, s.lo ≤ N → N ≤ s.hi → mem l N := by
      intro N a1 a2
      exact Classical.byContradiction fun c => h N ((h2 N).2 ⟨mem_one.2 ⟨a1, a2⟩, c⟩)
    obtain ⟨t, ht, b1, b2⟩ := all s.lo (Int.le_refl _) hle
    refine ⟨t, ht, b1, ?_⟩
    rcases Int.lt_or_le t.hi s.hi with g | g
    · exfalso
      obtain ⟨u, hu, c1, c2⟩ := all (t.hi + 1) (by omega) (by omega)
      obtain ⟨i, hi, rfl⟩ := List.mem_iff_getElem.1 ht
      obtain ⟨j, hj, rfl⟩ := List.mem_iff_getElem.1 hu
      have hlei := (hl.v _ ht).le
      rcases Nat.lt_trichotomy i j with g2 | g2 | g2
      · have := List.pairwise_iff_getElem.1 hl.p i j hi hj g2
        unfold gapR at this
        omega
      · subst g2; omega
      · have := List.pairwise_iff_getElem.1 hl.p j i hj hi g2
        unfold gapR at this
        omega
    · exact g
  · rintro ⟨t, ht, a1, a2⟩ N hN
    obtain ⟨c1, c2⟩ := (h2 N).1 hN
    have := mem_one.1 c1
    exact c2 ⟨t, ht, by omega, by omega⟩
end Go.Proofs.Ytkcmgjagjbiinaa.AL
namespace Go.Proofs.Ytkcmgjagjbiinaa.AL
open Go
/-! What the questions answer, both ways. -/
theorem nrm_lst {r : RS} (hin : inRS r) (h : chkR r = 0) {k : Nat} (hk : k < 3) : Nrm (famK k) (r.lst k) := by
  obtain ⟨h1, h2⟩ := chkR_0.1 h
  obtain ⟨_, h3⟩ := chkdR_0.1 h1
  exact nrm_of (inSP_lst hin k) (h3 k hk) (h2 k hk)
theorem sub_eq {f : Int} (hf : f = 4 ∨ f = 6) {a b : List SP} (ha : Nrm f a) (hb : Nrm f b) : subL b a = subD f a b := by
  unfold subL subD
  rw [min_done hf hb ha]
theorem cont_eq {a b : RS} (ia : inRS a) (ib : inRS b) (ha : chkR a = 0) (hb : chkR b = 0) : contR a b = contD a b := by
  unfold contR contD
  have e0 : subL b.l4 a.l4 = subD 4 a.l4 b.l4 := sub_eq (.inl rfl) (nrm_lst ia ha (k := 0) (by omega)) (nrm_lst ib hb (k := 0) (by omega))
  have e1 : subL b.l6 a.l6 = subD 6 a.l6 b.l6 := sub_eq (.inr rfl) (nrm_lst ia ha (k := 1) (by omega)) (nrm_lst ib hb (k := 1) (by omega))
  have e2 : subL (b.la.map wideS) (a.la.map wideS) = subD 4 (a.la.map wideS) (b.la.map wideS) := sub_eq (.inl rfl) (nrm_lst ia ha (k := 2) (by omega)) (nrm_lst ib hb (k := 2) (by omega))
  rw [e0, e1, e2]
theorem pref_eq {r : RS} {f h l n : Int} (hin : inRS r) (hc : chkR r = 0) (hA : inA h l) (hp : chkP f h l n = 0) : (prefR r f h l n).isEmpty = prefD r f h l n := by
  unfold prefR prefD
  obtain ⟨j, rfl, hj, hca, hcut⟩ := chk_zero hp
  have hf := cAddr_46 hca
  have hw := widN_le f
  have hr := lastA_rng (k := widN f - j) hA (by omega)
  have hn : Nrm f (if f = 6 then r.l6 else r.l4) := by
    rcases hf with rfl | rfl
    · exact nrm_lst hin hc (k := 0) (by omega)
    · exact nrm_lst hin hc (k := 1) (by omega)
  have hnum := lastA_num (h := h) hA.2.2.1 hA.2.2.2 (widN f - j)
  have hlt := numA_lt hA hca
  have hcutn := cutA_num hA.2.2.1 hA.2.2.2 (widN f - j) (h := h)
  rw [hcut] at hcutn
  have hp0 := ipow_pos (widN f - j)
  have e2 : (2 : Int) ^ widN f = 2 ^ j * 2 ^ (widN f - j) := by rw [← Int.pow_add]; congr 1; omega
  have hv : Vf f ⟨h, l, (lastA h l (widN f - ((j : Int)).toNat)).1, (lastA h l (widN f - ((j : Int)).toNat)).2⟩ := by
    rw [Int.toNat_natCast]
    have eh : SP.hi ⟨h, l, (lastA h l (widN f - j)).1, (lastA h l (widN f - j)).2⟩ = numA (lastA h l (widN f - j)) := rfl
    have el : SP.lo ⟨h, l, (lastA h l (widN f - j)).1, (lastA h l (widN f - j)).2⟩ = numA (h, l) := rfl
    refine Vf.mk' hf hA hr ?_ ?_
    · rw [eh, el, hnum]; omega
    · rw [eh, hnum, e2]
      have h1 : numA (h, l) / 2 ^ (widN f - j) < 2 ^ j := by
        refine Int.ediv_lt_of_lt_mul hp0 ?_
        rw [← e2]; exact hlt.2
      have h2 : (numA (h, l) / 2 ^ (widN f - j) + 1) * 2 ^ (widN f - j) ≤ 2 ^ j * 2 ^ (widN f - j) := Int.mul_le_mul_of_nonneg_right (by omega) (by omega)
      rw [Int.add_mul, Int.one_mul] at h2
      omega
  exact min_ends hv hn
theorem has_eq {l : List AS} {x : Int} (hl : ∀ s ∈ l, inAS s) (hx0 : 0 ≤ x) (hx1 : x ≤ 4294967295) : l.any (inN x) = inLA (l.map wideS) (0, x) := by
  unfold inLA
  rw [List.any_map, Bool.eq_iff_iff, List.any_eq_true, List.any_eq_true]
  have key : ∀ s ∈ l, inN x s = ((fun s => inS s.h s.l s.h' s.l' (0, x).fst (0, x).snd) ∘ wideS) s := ?_
  · exact ⟨fun ⟨s, hs, h⟩ => ⟨s, hs, by rw [← key s hs]; exact h⟩, fun ⟨s, hs, h⟩ => ⟨s, hs, by rw [key s hs]; exact h⟩⟩
  intro s hs
  have h := hl s hs
  have h1 := inSP_wide h
  have i1 : inA (wideS s).h (wideS s).l := ⟨h1.1, h1.2.1, h1.2.2.1, h1.2.2.2.1⟩
  have i2 : inA (wideS s).h' (wideS s).l' := ⟨h1.2.2.2.2.1, h1.2.2.2.2.2.1, h1.2.2.2.2.2.2.1, h1.2.2.2.2.2.2.2⟩
  have i3 : inA 0 x := ⟨by omega, by omega, hx0, by omega⟩
  simp only [Function.comp, inN, inS]
  rw [Bool.eq_iff_iff, Bool.and_eq_true, Bool.and_eq_true, decide_eq_true_eq, decide_eq_true_eq, decide_eq_true_eq, decide_eq_true_eq, cmpA_le i1 i3, cmpA_le i3 i2]
  simp only [wideS, numA]
  omega
def RS0 : RS := ⟨[], [], []⟩
theorem emp_eq {a : RS} : decide (a.l4.length + a.l6.length + a.la.length = 0) = sameR a RS0 := by
  unfold sameR RS0
  have hz : ∀ m : List SP, m = [] ↔ m.length = 0 := fun m => List.length_eq_zero_iff.symm
  have hz2 : ∀ m : List AS, m = [] ↔ m.length = 0 := fun m => List.length_eq_zero_iff.symm
  rw [Bool.eq_iff_iff]
  simp only [Bool.and_eq_true, decide_eq_true_eq, hz, hz2]
  omega
end Go.Proofs.Ytkcmgjagjbiinaa.AL
