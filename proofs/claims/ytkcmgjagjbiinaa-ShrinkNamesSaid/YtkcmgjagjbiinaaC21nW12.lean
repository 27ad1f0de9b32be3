import Derived.Test.YtkcmgjagjbiinaaC21nW11
import Derived.Test.YtkcmgjagjbiinaaC21nW7
/- What single functions compute: a part of the proof; no conditions. -/
set_option linter.unusedVariables false
set_option linter.unusedSimpArgs false
set_option linter.unusedSectionVars false
set_option maxRecDepth 100000
namespace Go.Proofs.Ytkcmgjagjbiinaa.AL
open Go
/-! Resources as sets. -/
theorem chkS_vf {f : Int} {s : SP} (h : Vf f s) : chkS f s.h s.l s.h' s.l' = 0 := by
  have h46 := cAddr_46 h.ca
  unfold chkS
  rw [if_neg (by rw [wid0]; omega), if_pos ⟨h.ca, h.cb, (cmpA_le h.a h.b).2 h.le⟩]
theorem nrm_good {f : Int} {l : List SP} (h : Nrm f l) : goodL f l = true ∧ nrmL l = true := by
  refine ⟨any_iff.2 fun i hi => chkS_vf (h.v _ (List.getElem_mem hi)), nrmL_iff.2 fun i hi => ?_⟩
  have h1 := h.v _ (List.getElem_mem hi)
  have h2 := h.v _ (List.getElem_mem (show i < l.length by omega))
  exact (aftB_iff h1.a h2.b).2 ((List.pairwise_iff_getElem.1 h.p) i (i + 1) (by omega) hi (by omega))
/-- Resources that are as they should be. -/
structure okR (r : RS) : Prop where
  i : inRS r
  c : chkR r = 0
theorem okR.nrm {r : RS} (h : okR r) {k : Nat} (hk : k < 3) : Nrm (famK k) (r.lst k) := nrm_lst h.i h.c hk
theorem okR_of {r : RS} (hi : inRS r) (hl : ∀ k, k < 3 → (r.lst k).length ≤ 200) (hn : ∀ k, k < 3 → Nrm (famK k) (r.lst k)) : okR r :=
  ⟨hi, chkR_0.2 ⟨chkdR_0.2 ⟨hl, fun k hk => (nrm_good (hn k hk)).1⟩, fun k hk => (nrm_good (hn k hk)).2⟩⟩
def memR (r : RS) (k : Nat) (N : Int) : Prop := mem (r.lst k) N
def leR (a b : RS) : Prop := ∀ k, k < 3 → ∀ N, memR a k N → memR b k N
def eqR (a b : RS) : Prop := ∀ k, k < 3 → ∀ N, memR a k N ↔ memR b k N
theorem leR.refl (a : RS) : leR a a := fun _ _ _ h => h
theorem leR.trans {a b c : RS} (h1 : leR a b) (h2 : leR b c) : leR a c := fun k hk N h => h2 k hk N (h1 k hk N h)
theorem eqR_sub {a b : RS} : eqR a b ↔ leR a b ∧ leR b a :=
  ⟨fun h => ⟨fun k hk N => (h k hk N).1, fun k hk N => (h k hk N).2⟩, fun h k hk N => ⟨h.1 k hk N, h.2 k hk N⟩⟩
theorem subL_iff {f : Int} {a b : List SP} (ha : Nrm f a) (hb : Nrm f b) : subL b a = true ↔ ∀ N, mem b N → mem a N := by
  unfold subL
  obtain ⟨h1, h2⟩ := minS_spec hb ha
  rw [List.isEmpty_iff, nrm_nil h1]
  constructor
  · intro h N hb
    rcases Classical.em (mem a N) with g | g
    · exact g
    · exact absurd ((h2 N).2 ⟨hb, g⟩) (h N)
  · intro h N hm
    obtain ⟨g1, g2⟩ := (h2 N).1 hm
    exact g2 (h N g1)
theorem cont_iff {a b : RS} (ha : okR a) (hb : okR b) : contR a b = true ↔ leR b a := by
  unfold contR
  have e0 := subL_iff (ha.nrm (k := 0) (by omega)) (hb.nrm (k := 0) (by omega))
  have e1 := subL_iff (ha.nrm (k := 1) (by omega)) (hb.nrm (k := 1) (by omega))
  have e2 := subL_iff (ha.nrm (k := 2) (by omega)) (hb.nrm (k := 2) (by omega))
  simp only [RS.lst] at e0 e1 e2
  rw [Bool.and_eq_true, Bool.and_eq_true, e0, e1, e2]
  constructor
  · rintro ⟨⟨h0, h1⟩, h2⟩ k hk
    match k, hk with
    | 0, _ => exact h0
    | 1, _ => exact h1
    | 2, _ => exact h2
  · intro h
    obtain ⟨h0, h1, h2⟩ := forall3 h
    exact ⟨⟨h0, h1⟩, h2⟩
theorem same_iff {a b : RS} (ha : okR a) (hb : okR b) : sameR a b = true ↔ eqR a b := by
  rw [sameR_iff ha.i hb.i]
  constructor
  · intro h k hk N
    unfold memR
    rw [h k hk]
  · intro h k hk
    exact nrm_eq (ha.nrm hk) (hb.nrm hk) (h k hk)
theorem wide_nar {s : SP} (h : Vf 4 s) : wideS (narS s) = s := by
  have h1 := h.ca
  have h2 := h.cb
  obtain ⟨a1, a2, a3, a4⟩ := h.a
  obtain ⟨b1, b2, b3, b4⟩ := h.b
  unfold cAddr at h1 h2
  simp at h1 h2
  cases s
  simp only [wideS, narS, SP.mk.injEq] at *
  rw [wrap_u32, wrap_u32]
  omega
theorem lst2_map {l : List SP} (h : Nrm 4 l) : (l.map narS).map wideS = l := by
  rw [List.map_map]
  refine (List.map_congr_left fun s hs => ?_).trans (List.map_id l)
  exact wide_nar (h.v s hs)
theorem int_lst {a b : RS} (ha : okR a) (hb : okR b) {k : Nat} (hk : k < 3) : (intR a b).lst k = interS (a.lst k) (b.lst k) := by
  match k, hk with
  | 0, _ => rfl
  | 1, _ => rfl
  | 2, _ => exact lst2_map (inter_spec' _ _ _ (Nat.le_refl _) (ha.nrm (k := 2) (by omega)) (hb.nrm (k := 2) (by omega))).1
theorem int_nrm {a b : RS} (ha : okR a) (hb : okR b) {k : Nat} (hk : k < 3) : Nrm (famK k) ((intR a b).lst k) ∧ ∀ N, memR (intR a b) k N ↔ memR a k N ∧ memR b k N := by
  unfold memR
  rw [int_lst ha hb hk]
  exact inter_spec' _ _ _ (Nat.le_refl _) (ha.nrm hk) (hb.nrm hk)
theorem inSP_vf' {f : Int} {s : SP} (h : Vf f s) : inSP s := ⟨h.a.1, h.a.2.1, h.a.2.2.1, h.a.2.2.2, h.b.1, h.b.2.1, h.b.2.2.1, h.b.2.2.2⟩
theorem inAS_nar' (s : SP) : inAS (narS s) := by
  unfold inAS narS
  simp only [wrap_u32]
  omega
theorem int_len {a b : RS} (ha : okR a) (hb : okR b) {k : Nat} (hk : k < 3) : ((intR a b).lst k).length ≤ (a.lst k).length + (b.lst k).length := by
  rw [int_lst ha hb hk]; exact interS_len _ _
theorem int_in {a b : RS} (ha : okR a) (hb : okR b) : inRS (intR a b) := by
  refine ⟨fun s hs => ?_, fun s hs => ?_, fun s hs => ?_⟩
  · exact inSP_vf' ((int_nrm ha hb (k := 0) (by omega)).1.v s hs)
  · exact inSP_vf' ((int_nrm ha hb (k := 1) (by omega)).1.v s hs)
  · obtain ⟨t, _, rfl⟩ := List.mem_map.1 hs
    exact inAS_nar' t
theorem lens_lst {r : RS} {n : Nat} : lenRS n r ↔ ∀ k, k < 3 → (r.lst k).length ≤ n := by
  constructor
  · exact fun h k _ => len_lst h k
  · intro h
    obtain ⟨h0, h1, h2⟩ := forall3 h
    simp only [RS.lst, List.length_map] at h0 h1 h2
    exact ⟨h0, h1, h2⟩
theorem okR_int {a b : RS} (ha : okR a) (hb : okR b) (la : lenRS 100 a) (lb : lenRS 100 b) : okR (intR a b) :=
  okR_of (int_in ha hb) (fun k hk => by have := int_len ha hb hk; have := lens_lst.1 la k hk; have := lens_lst.1 lb k hk; omega) (fun k hk => (int_nrm ha hb hk).1)
theorem int_sub {a b : RS} (ha : okR a) (hb : okR b) : leR (intR a b) a ∧ leR (intR a b) b :=
  ⟨fun k hk N h => ((int_nrm ha hb hk).2 N |>.1 h).1, fun k hk N h => ((int_nrm ha hb hk).2 N |>.1 h).2⟩
theorem int_great {a b c : RS} (ha : okR a) (hb : okR b) (h1 : leR c a) (h2 : leR c b) : leR c (intR a b) :=
  fun k hk N h => (int_nrm ha hb hk).2 N |>.2 ⟨h1 k hk N h, h2 k hk N h⟩
/-- Nothing changes exactly if the other one has all. -/
theorem same_int_a {a b : RS} (ha : okR a) (hb : okR b) (la : lenRS 100 a) (lb : lenRS 100 b) : sameR a (intR a b) = contR b a := by
  have hi := okR_int ha hb la lb
  rw [Bool.eq_iff_iff, same_iff ha hi, cont_iff hb ha, eqR_sub]
  have hs := int_sub ha hb
  exact ⟨fun h => h.1.trans hs.2, fun h => ⟨int_great ha hb (leR.refl a) h, hs.1⟩⟩
theorem same_int_b {a b : RS} (ha : okR a) (hb : okR b) (la : lenRS 100 a) (lb : lenRS 100 b) : sameR b (intR a b) = contR a b := by
  have hi := okR_int ha hb la lb
  rw [Bool.eq_iff_iff, same_iff hb hi, cont_iff ha hb, eqR_sub]
  have hs := int_sub ha hb
  exact ⟨fun h => h.1.trans hs.1, fun h => ⟨int_great ha hb h (leR.refl b), hs.2⟩⟩
/-! Depths. -/
theorem dep_mono {l : List HD} : ∀ {f g : Nat} {p : ByteArray} {d : Nat}, dep l f p = some d → d ≤ g → dep l g p = some d
  | 0, g, p, d, h, hg => by
    by_cases hp : p = .empty
    · rw [hp, dep_emp] at h; rw [hp, dep_emp]; exact h
    · rw [dep_zero hp] at h; cases h
  | f + 1, g, p, d, h, hg => by
    by_cases hp : p = .empty
    · rw [hp, dep_emp] at h; rw [hp, dep_emp]; exact h
    · cases hi : plc (nmsL l) p with
      | none => rw [dep_none hp hi] at h; cases h
      | some i =>
        rw [dep_step hp hi] at h
        cases hd : dep l f (l.getD i HD0).p with
        | none => rw [hd] at h; cases h
        | some e =>
          rw [hd] at h
          simp only [Option.map_some, Option.some.injEq] at h
          obtain ⟨g', rfl⟩ : ∃ g', g = g' + 1 := ⟨g - 1, by omega⟩
          rw [dep_step hp hi, dep_mono hd (g := g') (by omega)]
          simp [h]
theorem dep_le {l : List HD} : ∀ {f : Nat} {p : ByteArray} {d : Nat}, dep l f p = some d → d ≤ f
  | 0, p, d, h => by
    by_cases hp : p = .empty
    · rw [hp, dep_emp] at h; simp at h; omega
    · rw [dep_zero hp] at h; cases h
  | f + 1, p, d, h => by
    by_cases hp : p = .empty
    · rw [hp, dep_emp] at h; simp at h; omega
    · cases hi : plc (nmsL l) p with
      | none => rw [dep_none hp hi] at h; cases h
      | some i =>
        rw [dep_step hp hi] at h
        cases hd : dep l f (l.getD i HD0).p with
        | none => rw [hd] at h; cases h
        | some e =>
          rw [hd] at h
          simp only [Option.map_some, Option.some.injEq] at h
          have := dep_le hd
          omega
/-- Above a holder that deep there is one of each lesser depth. -/
theorem dep_all {l : List HD} : ∀ {f : Nat} {p : ByteArray} {d : Nat}, dep l f p = some d → ∀ e, e < d → ∃ i, i < l.length ∧ ∃ g, dep l g (l.getD i HD0).p = some e
  | 0, p, d, h, e, he => by have := dep_le h; omega
  | f + 1, p, d, h, e, he => by
    by_cases hp : p = .empty
    · rw [hp, dep_emp] at h; simp at h; omega
    · cases hi : plc (nmsL l) p with
      | none => rw [dep_none hp hi] at h; cases h
      | some i =>
        rw [dep_step hp hi] at h
        cases hd : dep l f (l.getD i HD0).p with
        | none => rw [hd] at h; cases h
        | some x =>
          rw [hd] at h
          simp only [Option.map_some, Option.some.injEq] at h
          rcases Nat.lt_or_ge e x with g | g
          · exact dep_all hd e g
          · have : x = e := by omega
            subst this
            exact ⟨i, plc_lt hi, f, hd⟩
theorem dep_uniq {l : List HD} {f g : Nat} {p : ByteArray} {d e : Nat} (h1 : dep l f p = some d) (h2 : dep l g p = some e) : d = e := by
  have a := dep_mono h1 (g := max d e) (by omega)
  have b := dep_mono h2 (g := max d e) (by omega)
  rw [a] at b
  exact Option.some.inj b
theorem pigeon : ∀ (d n : Nat) (F : Nat → Nat), (∀ e, e < d → F e < n) → (∀ e e', e < d → e' < d → F e = F e' → e = e') → d ≤ n
  | 0, n, F, _, _ => Nat.zero_le _
  | d + 1, 0, F, h, _ => absurd (h 0 (by omega)) (by omega)
  | d + 1, n + 1, F, h, hi => by
    have := pigeon d n (fun e => if F e < F d then F e else F e - 1) (fun e he => by
      have h1 := h e (by omega)
      have h2 := h d (by omega)
      have h3 : F e ≠ F d := fun x => by have := hi e d (by omega) (by omega) x; omega
      show (if F e < F d then F e else F e - 1) < n
      split <;> omega) (fun e e' he he' hx => by
      have h3 : F e ≠ F d := fun x => by have := hi e d (by omega) (by omega) x; omega
      have h4 : F e' ≠ F d := fun x => by have := hi e' d (by omega) (by omega) x; omega
      apply hi e e' (by omega) (by omega)
      replace hx : (if F e < F d then F e else F e - 1) = (if F e' < F d then F e' else F e' - 1) := hx
      split at hx <;> split at hx <;> omega)
    omega
/-- No holder is as deep as there are holders. -/
theorem dep_lt {l : List HD} {f : Nat} {i d : Nat} (hi : i < l.length) (h : dep l f (l.getD i HD0).p = some d) : d < l.length := by
  have hall : ∀ e, e < d + 1 → ∃ j, j < l.length ∧ ∃ g, dep l g (l.getD j HD0).p = some e := fun e he => by
    rcases Nat.lt_or_ge e d with g | g
    · exact dep_all h e g
    · have : e = d := by omega
      subst this
      exact ⟨i, hi, f, h⟩
  have hF : ∃ F : Nat → Nat, ∀ e, e < d + 1 → F e < l.length ∧ ∃ g, dep l g (l.getD (F e) HD0).p = some e := by
    refine ⟨fun e => if h : e < d + 1 then Classical.choose (hall e h) else 0, fun e he => ?_⟩
    simp only [dif_pos he]
    exact Classical.choose_spec (hall e he)
  obtain ⟨F, hF⟩ := hF
  have := pigeon (d + 1) l.length F (fun e he => (hF e he).1) (fun e e' he he' hx => by
    obtain ⟨g1, h1⟩ := (hF e he).2
    obtain ⟨g2, h2⟩ := (hF e' he').2
    rw [hx] at h1
    exact dep_uniq h1 h2)
  omega
end Go.Proofs.Ytkcmgjagjbiinaa.AL
namespace Go.Proofs.Ytkcmgjagjbiinaa.AL
open Go
/-! Plans. -/
theorem foldS_eq {l : List HD} {m to : Nat → RS} : ∀ (L : List Nat) (st : List SO), L.foldl (fun st i => addS st (l.getD i HD0) (m i) (to i)) st = st ++ (L.filter fun i => !sameR (l.getD i HD0).r (m i)).map fun i => ⟨(l.getD i HD0).n, to i⟩
  | [], st => by simp
  | i :: L, st => by
    rw [List.foldl_cons, foldS_eq L]
    unfold addS
    cases h : sameR (l.getD i HD0).r (m i)
    · rw [List.filter_cons_of_pos (by show (!_) = true; rw [h]; rfl)]; simp
    · rw [List.filter_cons_of_neg (by show ¬ (!_) = true; rw [h]; simp)]; simp
theorem planS_eq (a b : List HD) : planS a b = ((downL a true).filter fun i => !sameR (a.getD i HD0).r (bothI a b i)).map (fun i => ⟨(a.getD i HD0).n, bothI a b i⟩) ++
    ((downL a false).filter fun i => !sameR (b.getD i HD0).r (bothI a b i)).map (fun i => ⟨(b.getD i HD0).n, resI b i⟩) := by
  unfold planS
  rw [foldS_eq, foldS_eq, List.nil_append]
theorem down_lt {l : List HD} {up : Bool} {i : Nat} (h : i ∈ downL l up) : i < l.length := by
  unfold downL preD at h
  obtain ⟨k, _, h⟩ := List.mem_flatMap.1 h
  unfold selD at h
  exact List.mem_range.1 (List.mem_filter.1 h).1
theorem chkT_D {l : List HD} (h : chkT l = 0) {i : Nat} (hi : i < l.length) : dep l (l.length + 1) (l.getD i HD0).p = some (depN l i) := by
  have h1 := chkT_ok h
  unfold opnE at h1
  split at h1
  · exact absurd (congrArg (fun p => p.2.2) h1) (by simp)
  · split at h1
    · exact absurd (congrArg (fun p => p.2.2) h1) (by simp)
    · split at h1
      · exact absurd (congrArg (fun p => p.2.2) h1) (by simp)
      · rename_i h2
        have := lead_all l.length (okD l) i (by have := lead_le l.length (okD l); omega)
        unfold okD at this
        obtain ⟨d, hd⟩ := Option.isSome_iff_exists.1 this
        unfold depN
        rw [hd]; rfl
theorem chkT_len {l : List HD} (h : chkT l = 0) : l.length ≤ 30 := by
  have h1 := chkT_ok h
  unfold opnE at h1
  split at h1
  · exact absurd (congrArg (fun p => p.2.2) h1) (by simp)
  · omega
theorem chkT_N {l : List HD} (h : chkT l = 0) : ∀ i, i < l.length → okN l i = true := by
  have h1 := chkT_ok h
  unfold opnE at h1
  split at h1
  · exact absurd (congrArg (fun p => p.2.2) h1) (by simp)
  · split at h1
    · exact absurd (congrArg (fun p => p.2.2) h1) (by simp)
    · rename_i h2
      intro i hi
      exact lead_all l.length (okN l) i (by have := lead_le l.length (okN l); omega)
theorem depN_lt {l : List HD} (h : chkT l = 0) {i : Nat} (hi : i < l.length) : depN l i < l.length := dep_lt hi (chkT_D h hi)
theorem name_inj {l : List HD} (h : chkT l = 0) {i j : Nat} (hi : i < l.length) (hj : j < l.length) (e : (l.getD i HD0).n = (l.getD j HD0).n) : i = j := by
  rcases Nat.lt_trichotomy i j with g | g | g
  · exact absurd e (bls_ne (okN_sorted (Nat.le_refl _) (chkT_N h) j hj i g))
  · exact g
  · exact absurd e.symm (bls_ne (okN_sorted (Nat.le_refl _) (chkT_N h) i hi j g))
theorem plc_at {l : List HD} (h : chkT l = 0) {i : Nat} (hi : i < l.length) : plc (nmsL l) (l.getD i HD0).n = some i := by
  cases hp : plc (nmsL l) (l.getD i HD0).n with
  | none =>
    refine absurd rfl (plc_none.1 hp (l.getD i HD0).n ?_)
    rw [hd_get hi]
    exact List.mem_map.2 ⟨_, List.getElem_mem hi, rfl⟩
  | some j =>
    obtain ⟨hj, e, _⟩ := plc_some hp
    have hj' : j < l.length := by simpa using hj
    have : (l.getD j HD0).n = (l.getD i HD0).n := by
      rw [hd_get hj', ← e]; simp [nmsL]
    rw [name_inj h hj' hi this]
theorem range_count (i : Nat) : ∀ n, (List.range n).count i = if i < n then 1 else 0
  | 0 => by simp
  | n + 1 => by
    rw [List.range_succ, List.count_append, range_count i n]
    by_cases h : i = n
    · subst h; simp
    · have h' : ¬ n = i := fun e => h e.symm
      have e0 : [n].count i = 0 := List.count_eq_zero.2 (by simpa using h)
      rw [e0, Nat.add_zero]
      by_cases h1 : i < n
      · rw [if_pos h1, if_pos (by omega)]
      · rw [if_neg h1, if_neg (by omega)]
theorem selD_count {l : List HD} {up : Bool} {k i : Nat} (hi : i < l.length) : (selD l up k l.length).count i = if depN l i = rndD l.length up k then 1 else 0 := by
  unfold selD
  by_cases h : depN l i = rndD l.length up k
  · rw [if_pos h, List.count_filter (by simpa using h)]
    rw [range_count, if_pos hi]
  · rw [if_neg h, List.count_eq_zero]
    intro hm
    have := (List.mem_filter.1 hm).2
    simp at this
    exact h this
theorem preD_count {l : List HD} (h : chkT l = 0) {up : Bool} {i : Nat} (hi : i < l.length) : ∀ k, k ≤ l.length → (preD l up k).count i = if (if up = true then l.length - 1 - depN l i else depN l i) < k then 1 else 0
  | 0, _ => by simp [preD]
  | k + 1, hk => by
    have hd := depN_lt h hi
    rw [preD_succ, List.count_append, preD_count h hi k (by omega), selD_count hi]
    unfold rndD
    cases up
    · simp only [Bool.false_eq_true, if_false]
      split <;> split <;> split <;> omega
    · simp only [if_true]
      split <;> split <;> split <;> omega
theorem down_count {l : List HD} (h : chkT l = 0) {up : Bool} {i : Nat} (hi : i < l.length) : (downL l up).count i = 1 := by
  have hd := depN_lt h hi
  unfold downL
  rw [preD_count h hi _ (Nat.le_refl _), if_pos (by split <;> omega)]
theorem shp_len {a b : List HD} (h : shpB a b = true) : a.length = b.length := by
  unfold shpB at h; rw [Bool.and_eq_true, decide_eq_true_eq] at h; exact h.1
theorem shp_np {a b : List HD} (h : shpB a b = true) {i : Nat} (hi : i < a.length) : (a.getD i HD0).n = (b.getD i HD0).n ∧ (a.getD i HD0).p = (b.getD i HD0).p := by
  unfold shpB at h
  rw [Bool.and_eq_true, List.all_eq_true] at h
  have := h.2 i (List.mem_range.2 hi)
  unfold npE at this
  simpa using this
theorem planE_0 {a b : List HD} (h : planE a b = 0) : chkT a = 0 ∧ chkT b = 0 ∧ shpB a b = true ∧ a.any (excT (trL a)) = false ∧ b.any (excT (trL b)) = false := by
  unfold planE at h
  split at h
  · omega
  · split at h
    · omega
    · split at h
      · omega
      · split at h
        · omega
        · rename_i h1 h2 h3 h4
          simp only [Bool.or_eq_true, not_or, Bool.not_eq_true] at h4
          exact ⟨by omega, by omega, by simpa using h3, h4.1, h4.2⟩
/-- A valid tree's resources are as they should be. -/
theorem okT {l : List HD} (hl : inL l) (h : chkT l = 0) {i : Nat} (hi : i < l.length) : okR (l.getD i HD0).r := by
  refine ⟨?_, (chkT_R h i hi).2⟩
  rw [hd_get hi]
  exact (hl.1 _ (List.getElem_mem hi)).2.2.1
theorem plan_step {a b : List HD} {s : SO} (hn : shpB a b = true) (h : s ∈ planS a b) : ∃ i, i < a.length ∧ s.n = (a.getD i HD0).n ∧ (s.r = bothI a b i ∨ s.r = resI b i) := by
  rw [planS_eq, List.mem_append] at h
  rcases h with h | h
  · obtain ⟨i, hi, rfl⟩ := List.mem_map.1 h
    exact ⟨i, down_lt (List.mem_filter.1 hi).1, rfl, .inl rfl⟩
  · obtain ⟨i, hi, rfl⟩ := List.mem_map.1 h
    have hl := down_lt (List.mem_filter.1 hi).1
    exact ⟨i, hl, (shp_np hn hl).1.symm, .inr rfl⟩
theorem countP_map_name {l : List HD} (h : chkT l = 0) {L : List Nat} (hL : ∀ j ∈ L, j < l.length) {i : Nat} (hi : i < l.length) {nm : Nat → ByteArray} (hn : ∀ j, j < l.length → nm j = (l.getD j HD0).n) {to : Nat → RS} :
    (L.map fun j => (⟨nm j, to j⟩ : SO)).countP (fun s => decide (s.n = (l.getD i HD0).n)) = L.count i := by
  rw [List.countP_map, List.count]
  refine List.countP_congr fun j hj => ?_
  have hjl := hL j hj
  simp only [Function.comp_apply, decide_eq_true_eq, beq_iff_eq, hn j hjl]
  exact ⟨fun e => name_inj h hjl hi e, fun e => by rw [e]⟩
/-- How many steps there are for one holder. -/
theorem plan_count {a b : List HD} (hE : planE a b = 0) {i : Nat} (hi : i < a.length) : (planS a b).countP (fun s => decide (s.n = (a.getD i HD0).n)) =
    (if sameR (a.getD i HD0).r (bothI a b i) = true then 0 else 1) + (if sameR (b.getD i HD0).r (bothI a b i) = true then 0 else 1) := by
  obtain ⟨ha, hb, hs, _, _⟩ := planE_0 hE
  rw [planS_eq, List.countP_append, countP_map_name ha (fun j hj => down_lt (List.mem_filter.1 hj).1) hi (fun j hj => rfl),
    countP_map_name ha (fun j hj => down_lt (List.mem_filter.1 hj).1) hi (fun j hj => (shp_np hs hj).1.symm)]
  have key : ∀ (up : Bool) (p : Nat → Bool), ((downL a up).filter p).count i = if p i = true then 1 else 0 := by
    intro up p
    by_cases h : p i = true
    · rw [if_pos h, List.count_filter h, down_count ha hi]
    · rw [if_neg h, List.count_eq_zero]
      exact fun hm => h (List.mem_filter.1 hm).2
  rw [key, key]
  congr 1
  · cases sameR (a.getD i HD0).r (bothI a b i) <;> rfl
  · cases sameR (b.getD i HD0).r (bothI a b i) <;> rfl
theorem chkT_of {l : List HD} (h0 : l.length ≤ 30) (h1 : ∀ i, i < l.length → okN l i = true) (h2 : ∀ i, i < l.length → okD l i = true) : chkT l = 0 := by
  have e1 : lead (okN l) l.length = l.length := lead_at _ _ _ (Nat.le_refl _) h1 (fun h => absurd h (by omega))
  have e2 : lead (okD l) l.length = l.length := lead_at _ _ _ (Nat.le_refl _) h2 (fun h => absurd h (by omega))
  unfold chkT opnE
  rw [if_neg (by omega), e1, if_neg (by omega), e2, if_neg (by omega)]
end Go.Proofs.Ytkcmgjagjbiinaa.AL
namespace Go.Proofs.Ytkcmgjagjbiinaa.AL
open Go
attribute [local simp] qf cv qbin ibin sbin qun retPost rvOk ctV ctPost marksOk retV resAll resOf V.lt ltL V.ren renL V.exp V.exp1 cleanL V.clean closedL V.closed V.cells V.one V.tree
  loadV cellsAt isNC nilQ isSlD isIfD slNew ownRows ownCells V.isOwn slStore srcO qlook mlook mget mstr zval qnone qmake mput lmap isAggD placesOf fillV putCells lstore bound seqParts V.sh shL Blk.sh newV V.ok peqs peq srcRows qbytes byteSl appOk mmV mmR hidE V.fz fzL Blk.fz fzOk and_assoc
attribute [-simp] Int.not_le Int.not_lt Nat.not_le Nat.not_lt
theorem u32r {n : Int} (h : (Lit.int .u32 n).wf = true) : 0 ≤ n ∧ n ≤ 4294967295 := by
  simp only [Lit.wf, Bool.and_eq_true, decide_eq_true_eq] at h
  have e1 : IntKind.u32.min = 0 := rfl
  have e2 : IntKind.u32.max = 4294967295 := rfl
  omega
theorem sp_of_shape {r : List V} (h : LSh [.int .u64, .int .u64, .int .u64, .int .u64] r) : ∃ a : SP, r = a.row ∧ inSP a := by
  simp only [LSh, VSh] at h
  obtain ⟨_, _, rfl, ⟨x, rfl, hx⟩, _, _, rfl, ⟨y, rfl, hy⟩, _, _, rfl, ⟨n, rfl, hn⟩, _, _, rfl, ⟨m, rfl, hm⟩, rfl⟩ := h
  refine ⟨⟨x, y, n, m⟩, rfl, ?_⟩
  have := u64_rng hx
  have := u64_rng hy
  have := u64_rng hn
  have := u64_rng hm
  unfold inSP
  simp only
  omega
theorem sps_of_shape : ∀ {rows : List (List V)}, (∀ r ∈ rows, LSh [.int .u64, .int .u64, .int .u64, .int .u64] r) → ∃ l : List SP, rows = sRows l ∧ ∀ a ∈ l, inSP a
  | [], _ => ⟨[], rfl, by simp⟩
  | r :: rows, h => by
    obtain ⟨a, rfl, ha⟩ := sp_of_shape (h r (by simp))
    obtain ⟨l, rfl, hl⟩ := sps_of_shape (rows := rows) (fun q hq => h q (by simp [hq]))
    exact ⟨a :: l, rfl, by simpa using ⟨ha, hl⟩⟩
theorem as_of_shape {r : List V} (h : LSh [.int .u32, .int .u32] r) : ∃ a : AS, r = a.row ∧ inAS a := by
  simp only [LSh, VSh] at h
  obtain ⟨_, _, rfl, ⟨x, rfl, hx⟩, _, _, rfl, ⟨y, rfl, hy⟩, rfl⟩ := h
  refine ⟨⟨x, y⟩, rfl, ?_⟩
  have := u32r hx
  have := u32r hy
  unfold inAS
  simp only
  omega
theorem ass_of_shape : ∀ {rows : List (List V)}, (∀ r ∈ rows, LSh [.int .u32, .int .u32] r) → ∃ l : List AS, rows = aRows l ∧ ∀ a ∈ l, inAS a
  | [], _ => ⟨[], rfl, by simp⟩
  | r :: rows, h => by
    obtain ⟨a, rfl, ha⟩ := as_of_shape (h r (by simp))
    obtain ⟨l, rfl, hl⟩ := ass_of_shape (rows := rows) (fun q hq => h q (by simp [hq]))
    exact ⟨a :: l, rfl, by simpa using ⟨ha, hl⟩⟩
theorem rs_of_shape {vs : List V} (h : LSh [.sl [.int .u64, .int .u64, .int .u64, .int .u64], .sl [.int .u64, .int .u64, .int .u64, .int .u64], .sl [.int .u32, .int .u32]] vs) : ∃ r : RS, vs = r.cells ∧ inRS r := by
  simp only [LSh, VSh, shLen] at h
  obtain ⟨_, _, rfl, ⟨r1, rfl, _, h1⟩, _, _, rfl, ⟨r2, rfl, _, h2⟩, _, _, rfl, ⟨r3, rfl, _, h3⟩, rfl⟩ := h
  obtain ⟨l1, rfl, g1⟩ := sps_of_shape (rows := r1) (fun r hr => by simpa only [LSh, VSh] using h1 r hr)
  obtain ⟨l2, rfl, g2⟩ := sps_of_shape (rows := r2) (fun r hr => by simpa only [LSh, VSh] using h2 r hr)
  obtain ⟨l3, rfl, g3⟩ := ass_of_shape (rows := r3) (fun r hr => by simpa only [LSh, VSh] using h3 r hr)
  exact ⟨⟨l1, l2, l3⟩, rfl, g1, g2, g3⟩
def SSameN : List V → Option Res
  | [.agg ca, .agg [.nils, .nils, .nils]] => SSameD [.agg ca, .agg RS0.cells]
  | x => SSameD x
theorem runs_sameN : ∀ args r, SSameN args = some r → Runs Try.prog 20 args r := by
  intro args r hh
  unfold SSameN at hh
  split at hh
  · rename_i ca
    refine Runs.weak (args' := [.agg ca, .agg RS0.cells]) ?_ (runs_ref03_Same _ _ hh)
    intro E vs h
    simp only [RL, R, RS0, RS.cells, sRows, aRows, List.map_nil] at h ⊢
    obtain ⟨v, vs', rfl, g0, w, vs2, rfl, ⟨ws, rfl, w1, ws1, rfl, g1, w2, ws2, rfl, g2, w3, ws3, rfl, g3, rfl⟩, rfl⟩ := h
    exact ⟨_, _, rfl, g0, _, _, rfl, ⟨_, rfl, w1, _, rfl, by subst g1; exact ⟨none, 0, rfl, Nat.le_refl _, Nat.zero_le _, by simp⟩, w2, _, rfl, by subst g2; exact ⟨none, 0, rfl, Nat.le_refl _, Nat.zero_le _, by simp⟩, w3, _, rfl, by subst g3; exact ⟨none, 0, rfl, Nat.le_refl _, Nat.zero_le _, by simp⟩, rfl⟩, rfl⟩
  · exact runs_ref03_Same _ _ hh
theorem grt_len {n : Nat} (h : grt n = false) : n ≤ 400 := by
  unfold grt at h
  simp at h
  omega
end Go.Proofs.Ytkcmgjagjbiinaa.AL
namespace Go.Proofs.Ytkcmgjagjbiinaa.AL
open Go
attribute [local simp] qf cv qbin ibin sbin qun retPost rvOk ctV ctPost marksOk retV resAll resOf V.lt ltL V.ren renL V.exp V.exp1 cleanL V.clean closedL V.closed V.cells V.one V.tree
  loadV cellsAt isNC nilQ isSlD isIfD slNew ownRows ownCells V.isOwn slStore srcO qlook mlook mget mstr zval qnone qmake mput lmap isAggD placesOf fillV putCells lstore bound seqParts V.sh shL Blk.sh newV V.ok peqs peq srcRows qbytes byteSl appOk mmV mmR hidE V.fz fzL Blk.fz fzOk and_assoc
attribute [-simp] Int.not_le Int.not_lt Nat.not_le Nat.not_lt
def grtH (h : HD) : Bool := decide (100 < h.n.size) || decide (100 < h.p.size) || (grt h.r.l4.length || grt h.r.l6.length || grt h.r.la.length)
def grtL (l : List HD) : Bool := decide (40 < l.length) || l.any grtH
def SGrL : List V → Option Res
  | [.rd 5 rows] => match hdsOf rows with
    | some l => some ⟨.bool (grtL l), []⟩
    | none => none
  | _ => none
theorem gr3_at (r : RS) : SGr3 [.agg r.cells] = some ⟨.bool (grt r.l4.length || grt r.l6.length || grt r.la.length), []⟩ := by simp [SGr3, RS.cells]
theorem runs_ref21_Great : ∀ args r, SGrL args = some r → Runs Try.prog 10 args r := by
  intro args r hh
  unfold SGrL at hh
  split at hh
  · rename_i rows
    split at hh
    · rename_i l hl
      have h1 := parse_eq hdOf_eq hl
      subst h1
      cases hh
      change Runs _ _ [.rd 5 (hRows l)] _
      have hT : (T0.add 11 SGr3).ok Try.prog := Tab.add_ok (T0_ok _) runs_ref03_Great
      refine Runs.of_body Try.func10 (by decide) rfl (by simp [Try.f10]) ?_
      refine W.seqE hT mixed M0 (by kernel_rfl) ?_
      simp [Try.f10]
      by_cases h40 : 40 < l.length
      · have h40' : (40 : Int) < l.length := by omega
        have hg : grtL l = true := by unfold grtL; rw [decide_eq_true h40, Bool.true_or]
        refine W.of_WE hT mixed M0 _ (by kernel_rfl) ?_
        simp [Try.f10, h40', hg]
      · have h40' : ¬ (40 : Int) < l.length := by omega
        obtain ⟨X, hX⟩ : ∃ X, X = grtL l := ⟨_, rfl⟩
        rw [← hX]
        refine W.seqE hT mixed M0 (by kernel_rfl) ?_
        simp [Try.f10, h40']
        refine W.cut (X = false) [] [] 37 ?_ ?_
        · refine W.seqE hT mixed M0 (by kernel_rfl) ?_
          simp [Try.f10]
          refine W.block (W.for (fun k => ∀ i (hi : i < k) (h : i < l.length), grtH l[i] = false) (fun k => [(0, .rd 5 (hRows l)), (3, .int .i64 k)]) (fun _ => []) 37 l.length (fun i hi => absurd hi (by omega)) ?_ ?_)
          · simp
          · intro k hk hJ
            refine W.of_WE hT mixed M0 _ (by kernel_rfl) ?_
            by_cases hlt : k < l.length
            · have hw1 : IntKind.i64.wrap ((k : Int) + 1) = k + 1 := wr_i64 (by omega) (by omega)
              have hg := gr3_at l[k].r
              simp only [RS.cells] at hg
              cases hp : grtH l[k]
              · have hJ' : ∀ i (hi : i < k + 1) (h : i < l.length), grtH l[i] = false := fun i hi h => by
                  rcases Nat.lt_or_ge i k with g | g
                  · exact hJ i g h
                  · have : i = k := by omega
                    subst this; exact hp
                unfold grtH at hp
                simp only [Bool.or_eq_false_iff, decide_eq_false_iff_not] at hp
                obtain ⟨⟨p1, p2⟩, ⟨p3, p4⟩, p5⟩ := hp
                rw [p3, p4, p5] at hg
                have q1 : ¬ (100 : Int) < l[k].n.size := by omega
                have q2 : ¬ (100 : Int) < l[k].p.size := by omega
                simp [hlt, HD.row, hg, hw1, q1, q2]
                exact hJ'
              · have hx : X = true := by
                  rw [hX]; unfold grtL
                  rw [Bool.or_eq_true, List.any_eq_true]
                  exact .inr ⟨_, List.getElem_mem hlt, hp⟩
                unfold grtH at hp
                by_cases q1 : (100 : Int) < l[k].n.size
                · simp [hlt, HD.row, q1, hx]
                · by_cases q2 : (100 : Int) < l[k].p.size
                  · simp [hlt, HD.row, q1, q2, hx]
                  · have p1 : ¬ 100 < l[k].n.size := by omega
                    have p2 : ¬ 100 < l[k].p.size := by omega
                    rw [decide_eq_false p1, decide_eq_false p2, Bool.false_or, Bool.false_or] at hp
                    rw [hp] at hg
                    simp [hlt, HD.row, hg, q1, q2, hx]
            · have : k = l.length := by omega
              subst this
              have hx : X = false := by
                rw [hX]; unfold grtL
                rw [decide_eq_false h40, Bool.false_or, List.any_eq_false]
                intro h hm
                obtain ⟨i, hi, rfl⟩ := List.getElem_of_mem hm
                rw [hJ i hi hi]; simp
              simp [hx]
        · intro hi
          refine W.of_WE hT mixed M0 _ (by kernel_rfl) ?_
          simp [Try.f10, hi]
    · cases hh
  · cases hh
def plcI (l : List HD) (s : ByteArray) : Int := match plc (nmsL l) s with
  | some i => i
  | none => -1
def SPlc : List V → Option Res
  | [.rd 5 rows, .str s] => match hdsOf rows with
    | some l => if l.length ≤ 1000 then some ⟨.int .i64 (plcI l s), []⟩ else none
    | none => none
  | _ => none
theorem plcI_at {l : List HD} {s : ByteArray} {k : Nat} (hk : k < l.length) (hb : ∀ i (hi : i < k), (l[i]'(by omega)).n ≠ s) (h : l[k].n = s) : plcI l s = k := by
  unfold plcI
  cases hp : plc (nmsL l) s with
  | none =>
    exact absurd h (plc_none.1 hp _ (List.mem_map.2 ⟨_, List.getElem_mem hk, rfl⟩))
  | some j =>
    obtain ⟨hj, e, hbe⟩ := plc_some hp
    have hj' : j < l.length := by simpa using hj
    have e' : l[j].n = s := by rw [← e]; simp [nmsL]
    rcases Nat.lt_trichotomy j k with g | g | g
    · exact absurd e' (hb j g)
    · rw [g]
    · exact absurd h (by have := hbe k g; simpa [nmsL] using this)
theorem plcI_no {l : List HD} {s : ByteArray} (h : ∀ i (hi : i < l.length), l[i].n ≠ s) : plcI l s = -1 := by
  unfold plcI
  have : plc (nmsL l) s = none := plc_none.2 fun a ha => by
    obtain ⟨x, hx, rfl⟩ := List.mem_map.1 ha
    obtain ⟨i, hi, rfl⟩ := List.getElem_of_mem hx
    exact h i hi
  rw [this]
theorem runs_ref21_Place : ∀ args r, SPlc args = some r → Runs Try.prog 23 args r := by
  intro args r hh
  unfold SPlc at hh
  split at hh
  · rename_i rows s
    split at hh
    · rename_i l hl
      split at hh
      · rename_i hlen
        have h1 := parse_eq hdOf_eq hl
        subst h1
        cases hh
        change Runs _ _ [.rd 5 (hRows l), .str s] _
        obtain ⟨X, hX⟩ : ∃ X, X = plcI l s := ⟨_, rfl⟩
        rw [← hX]
        refine Runs.of_body Try.func23 (by decide) rfl (by simp [Try.f23]) ?_
        refine W.seqE (T0_ok _) mixed M0 (by kernel_rfl) ?_
        simp [Try.f23]
        refine W.cut (X = -1) [] [] 20 ?_ ?_
        · refine W.seqE (T0_ok _) mixed M0 (by kernel_rfl) ?_
          simp [Try.f23]
          refine W.block (W.for (fun k => ∀ i (hi : i < k) (h : i < l.length), l[i].n ≠ s) (fun k => [(0, .rd 5 (hRows l)), (1, .str s), (5, .int .i64 k)]) (fun _ => []) 20 l.length (fun i hi => absurd hi (by omega)) ?_ ?_)
          · simp
          · intro k hk hJ
            refine W.of_WE (T0_ok _) mixed M0 _ (by kernel_rfl) ?_
            by_cases hlt : k < l.length
            · have hw1 : IntKind.i64.wrap ((k : Int) + 1) = k + 1 := wr_i64 (by omega) (by omega)
              by_cases hp : l[k].n = s
              · have hx : X = k := by rw [hX]; exact plcI_at hlt (fun i hi => hJ i hi (by omega)) hp
                have hp' : l[k].n.toList = s.toList := by rw [hp]
                simp [hlt, HD.row, hp', hx]
              · have hJ' : ∀ i (hi : i < k + 1) (h : i < l.length), l[i].n ≠ s := fun i hi h => by
                  rcases Nat.lt_or_ge i k with g | g
                  · exact hJ i g h
                  · have : i = k := by omega
                    subst this; exact hp
                have hp' : ¬ l[k].n.toList = s.toList := fun e => hp (bytes_ext e)
                simp [hlt, HD.row, hp', hw1]
                exact hJ'
            · have : k = l.length := by omega
              subst this
              have hx : X = -1 := by rw [hX]; exact plcI_no fun i hi => hJ i hi hi
              simp [hx]
        · intro hi
          refine W.of_WE (T0_ok _) mixed M0 _ (by kernel_rfl) ?_
          simp [Try.f23, hi]
      · cases hh
    · cases hh
  · cases hh
def soOf : List V → Option SO
  | [.str n, a, b, c] => match rsOf [a, b, c] with
    | some r => some ⟨n, r⟩
    | none => none
  | _ => none
theorem soOf_row (h : SO) : soOf h.row = some h := by
  have := rsOf_cells h.r
  simp only [RS.cells] at this
  simp only [soOf, SO.row, this]
theorem soOf_eq (r : List V) (h : SO) (e : soOf r = some h) : r = h.row := by
  unfold soOf at e
  split at e
  · split at e
    · rename_i hr
      cases e
      have := rsOf_eq hr
      simp only [RS.cells, List.cons.injEq, and_true] at this
      obtain ⟨rfl, rfl, rfl⟩ := this
      rfl
    · cases e
  · cases e
theorem oRowsS_parse (l : List SO) : parseRows soOf (oRowsS l) = some l := parse_map soOf_row l
@[simp] theorem oRowsS_getElem {m : List SO} {k : Nat} (h : k < (oRowsS m).length) : (oRowsS m)[k] = (m[k]'(by rw [oRowsS_len] at h; exact h)).row := by simp [oRowsS]
def eqSO (x y : SO) : Bool := decide (x.n = y.n) && sameR x.r y.r
def SO0 : SO := ⟨.empty, ⟨[], [], []⟩⟩
def eqSs (a b : List SO) : Bool := decide (a.length = b.length) && (List.range a.length).all fun i => eqSO (a.getD i SO0) (b.getD i SO0)
def inSO (s : SO) : Prop := inRS s.r ∧ lenRS 1000000 s.r
instance (s : SO) : Decidable (inSO s) := by unfold inSO; infer_instance
def SSmS : List V → Option Res
  | [.rd 4 ra, .rd 4 rb] => match parseRows soOf ra, parseRows soOf rb with
    | some a, some b => if (∀ s ∈ a, inSO s) ∧ (∀ s ∈ b, inSO s) ∧ a.length ≤ 1000000 ∧ b.length ≤ 1000000 then some ⟨.bool (eqSs a b), []⟩ else none
    | _, _ => none
  | _ => none
theorem so_get {l : List SO} {k : Nat} (h : k < l.length) : l.getD k SO0 = l[k] := by rw [List.getD_eq_getElem?_getD, List.getElem?_eq_getElem h]; rfl
theorem sameD_at {a b : RS} (ia : inRS a) (ib : inRS b) (la : lenRS 1000000 a) (lb : lenRS 1000000 b) : SSameD [.agg a.cells, .agg b.cells] = some ⟨.bool (sameR a b), []⟩ := by
  simp only [SSameD, rsOf_cells]; rw [if_pos ⟨ia, ib, la, lb⟩]
def M_f29 : Md := fun i => if i = 6 then some #[0, 0, 3, 7, 15, 0, 0, 96, 224, 480, 1023, 2047, 4095, 4095, 16383, 32767, 65535, 4095, 4095, 397311, 921599, 1970175, 4194303, 8388607, 16777215] else some #[]
@[simp] theorem M_f29_eq {i : Nat} : M_f29 i = (if i = 6 then some #[0, 0, 3, 7, 15, 0, 0, 96, 224, 480, 1023, 2047, 4095, 4095, 16383, 32767, 65535, 4095, 4095, 397311, 921599, 1970175, 4194303, 8388607, 16777215] else some #[]) := rfl
theorem runs_ref21_SameSteps : ∀ args r, SSmS args = some r → Runs Try.prog 29 args r := by
  intro args r hh
  unfold SSmS at hh
  split at hh
  · rename_i ra rb
    split at hh
    · rename_i a b ha hb
      split at hh
      · rename_i hin
        obtain ⟨ia, ib, la, lb⟩ := hin
        have h1 := parse_eq soOf_eq ha
        have h2 := parse_eq soOf_eq hb
        subst h1 h2
        cases hh
        change Runs _ _ [.rd 4 (oRowsS a), .rd 4 (oRowsS b)] _
        have hT : (T0.add 20 SSameD).ok Try.prog := Tab.add_ok (T0_ok _) runs_ref03_Same
        obtain ⟨X, hX⟩ : ∃ X, X = eqSs a b := ⟨_, rfl⟩
        rw [← hX]
        refine Runs.of_body Try.func29 (by decide) rfl (by simp [Try.f29]) ?_
        refine W.seqE hT mixed M_f29 (by kernel_rfl) ?_
        simp [Try.f29]
        by_cases hl : a.length = b.length
        · have hl' : (a.length : Int) = b.length := by omega
          refine W.seqE hT mixed M_f29 (by kernel_rfl) ?_
          simp [hl']
          refine W.cut (X = true) [] [] 42 ?_ ?_
          · refine W.seqE hT mixed M_f29 (by kernel_rfl) ?_
            simp
            refine W.block (W.for (fun k => ∀ i, i < k → eqSO (a.getD i SO0) (b.getD i SO0) = true) (fun k => [(0, .rd 4 (oRowsS a)), (1, .rd 4 (oRowsS b)), (5, .int .i64 k)]) (fun _ => []) 42 a.length (fun i hi => absurd hi (by omega)) ?_ ?_)
            · simp
            · intro k hk hJ
              refine W.of_WE hT mixed M_f29 _ (by kernel_rfl) ?_
              by_cases hlt : k < a.length
              · have hlt2 : k < b.length := by omega
                have hw1 : IntKind.i64.wrap ((k : Int) + 1) = k + 1 := wr_i64 (by omega) (by omega)
                have xa := ia _ (List.getElem_mem hlt)
                have xb := ib _ (List.getElem_mem hlt2)
                have hs := sameD_at xa.1 xb.1 xa.2 xb.2
                simp only [RS.cells] at hs
                cases hp : eqSO a[k] b[k]
                · have hx : X = false := by
                    rw [hX]
                    unfold eqSs
                    have : ((List.range a.length).all fun i => eqSO (a.getD i SO0) (b.getD i SO0)) = false := by
                      rw [List.all_eq_false]
                      exact ⟨k, by simpa using hlt, by rw [so_get hlt, so_get hlt2, hp]; simp⟩
                    rw [this, Bool.and_false]
                  unfold eqSO at hp
                  rw [← bytes_dec] at hp
                  by_cases hn : a[k].n.toList = b[k].n.toList
                  · rw [decide_eq_true hn, Bool.true_and] at hp
                    rw [hp] at hs
                    simp [hlt, hlt2, SO.row, hn, hs, hx]
                  · simp [hlt, hlt2, SO.row, hn, hx]
                · have hJ' : ∀ i, i < k + 1 → eqSO (a.getD i SO0) (b.getD i SO0) = true := fun i hi => by
                    rcases Nat.lt_or_ge i k with g | g
                    · exact hJ i g
                    · have : i = k := by omega
                      subst this; rw [so_get hlt, so_get hlt2, hp]
                  unfold eqSO at hp
                  rw [← bytes_dec, Bool.and_eq_true, decide_eq_true_eq] at hp
                  rw [hp.2] at hs
                  simp only [List.getD_eq_getElem?_getD] at hJ'
                  simp [hlt, hlt2, SO.row, hp.1, hs, hw1]
                  exact hJ'
              · have : k = a.length := by omega
                subst this
                have hx : X = true := by
                  rw [hX]
                  unfold eqSs
                  rw [decide_eq_true hl, Bool.true_and, List.all_eq_true]
                  intro i hi
                  exact hJ i (by rw [List.mem_range] at hi; omega)
                simp [hx]
          · intro hi
            refine W.of_WE hT mixed M_f29 _ (by kernel_rfl) ?_
            simp [Try.f29, hi]
        · have hx : X = false := by rw [hX]; unfold eqSs; rw [decide_eq_false hl, Bool.false_and]
          have hl' : ¬ (a.length : Int) = b.length := by omega
          refine W.of_WE hT mixed M_f29 _ (by kernel_rfl) ?_
          simp [Try.f29, hl', hx]
      · cases hh
    · cases hh
  · cases hh
/-- The numbers of one span. -/
def asR (x y : Int) : RS := ⟨[], [], [⟨x, y⟩]⟩
def SAs2 : List V → Option Res
  | [.int .u32 x, .int .u32 y] => some ⟨.agg (asR x y).cells, []⟩
  | _ => none
theorem runs_law21_as : ∀ args r, SAs2 args = some r → Runs Try.prog 37 args r := by
  intro args r hh
  unfold SAs2 at hh
  split at hh
  · rename_i x y
    cases hh
    refine Runs.of_body Try.func37 (by decide) rfl (by simp [Try.f37]) ?_
    refine W.seqE (T0_ok _) mixed M0 (by kernel_rfl) ?_
    simp [Try.f37]
    refine W.cut True [(4, .ptr 0 0)] [.box 26 [.nils, .nils, .own 1], .sl 2 68 [[.int .u32 x, .int .u32 y]]] 10 ?_ ?_
    · refine W.of_WE (T0_ok _) mixed M0 _ (by kernel_rfl) ?_
      simp
    intro _
    refine W.wk (Wk.freeze 1 (.sl 2 68 [[.int .u32 x, .int .u32 y]]) (by simp) (by simp)) ?_
    refine W.wk (Wk.weakB 0 (bt := 26) (cells := [.nils, .nils, .rd 2 [[.int .u32 x, .int .u32 y]]]) [.rd 4 [], .rd 4 [], .rd 2 [[.int .u32 x, .int .u32 y]]] (by simp) ?_) ?_
    · intro E vs h
      simp only [RL] at h ⊢
      obtain ⟨w1, ws1, rfl, g1, w2, ws2, rfl, g2, h⟩ := h
      exact ⟨_, _, rfl, R_nils_rd 4 g1, _, _, rfl, R_nils_rd 4 g2, h⟩
    refine W.of_WE (T0_ok _) mixed M0 _ (by kernel_rfl) ?_
    simp [asR, RS.cells, sRows, aRows, AS.row]
  · cases hh
def exA : List HD := [⟨⟨#[99]⟩, ⟨#[114]⟩, asR 1 5⟩, ⟨⟨#[114]⟩, ⟨#[]⟩, asR 1 10⟩]
def exB : List HD := [⟨⟨#[99]⟩, ⟨#[114]⟩, asR 5 15⟩, ⟨⟨#[114]⟩, ⟨#[]⟩, asR 4 20⟩]
theorem runs_law21_example : Runs Try.prog 36 [] ⟨.tup [.rd 5 (hRows exA), .rd 5 (hRows exB)], []⟩ := by
  have hT : (T0.add 37 SAs2).ok Try.prog := Tab.add_ok (T0_ok _) runs_law21_as
  refine Runs.of_body Try.func36 (by decide) rfl (by simp [Try.f36]) ?_
  refine W.seqE hT mixed M0 (by kernel_rfl) ?_
  simp [Try.f36]
  refine W.cut True [(0, .own 0), (1, .own 1)] [.sl 5 52 (hRows exA), .sl 5 52 (hRows exB)] 12 ?_ ?_
  · refine W.of_WE hT mixed M0 _ (by kernel_rfl) ?_
    simp [SAs2, exA, exB, hRows, HD.row, asR, RS.cells, sRows, aRows, AS.row]
    rfl
  intro _
  refine W.wk (Wk.freeze 0 (.sl 5 52 (hRows exA)) (by simp) (by simp)) ?_
  refine W.wk (Wk.freeze 1 (.sl 5 52 (hRows exB)) (by simp) (by simp)) ?_
  refine W.of_WE hT mixed M0 _ (by kernel_rfl) ?_
  simp
def exS : List SO := [⟨⟨#[99]⟩, asR 5 5⟩, ⟨⟨#[114]⟩, asR 4 10⟩, ⟨⟨#[114]⟩, asR 4 20⟩, ⟨⟨#[99]⟩, asR 5 15⟩]

end Go.Proofs.Ytkcmgjagjbiinaa.AL
namespace Go.Proofs.Ytkcmgjagjbiinaa.AL
open Go
attribute [local simp] qf cv qbin ibin sbin qun retPost rvOk ctV ctPost marksOk retV resAll resOf V.lt ltL V.ren renL V.exp V.exp1 cleanL V.clean closedL V.closed V.cells V.one V.tree
  loadV cellsAt isNC nilQ isSlD isIfD slNew ownRows ownCells V.isOwn slStore srcO qlook mlook mget mstr zval qnone qmake mput lmap isAggD placesOf fillV putCells lstore bound seqParts V.sh shL Blk.sh newV V.ok peqs peq srcRows qbytes byteSl appOk mmV mmR hidE V.fz fzL Blk.fz fzOk and_assoc
attribute [-simp] Int.not_le Int.not_lt Nat.not_le Nat.not_lt
theorem bls_cr : bls ⟨#[99]⟩ ⟨#[114]⟩ = true := by
  unfold bls
  rw [ByteArray.toList_eq, ByteArray.toList_eq]
  rfl
theorem chk_ex {x y x' y' : Int} (h0 : chkR (asR x y) = 0) (h1 : chkR (asR x' y') = 0) : chkT [⟨⟨#[99]⟩, ⟨#[114]⟩, asR x y⟩, ⟨⟨#[114]⟩, ⟨#[]⟩, asR x' y'⟩] = 0 := by
  refine chkT_of (by simp) (fun i hi => ?_) (fun i hi => ?_)
  · match i, hi with
    | 0, _ =>
      show (nameS ⟨#[99]⟩ && (decide (chkR (asR x y) = 0) && (decide ((0 : Nat) = 0) || _))) = true
      rw [h0]
      kernel_rfl
    | 1, _ =>
      show (nameS ⟨#[114]⟩ && (decide (chkR (asR x' y') = 0) && (decide ((1 : Nat) = 0) || bls ⟨#[99]⟩ ⟨#[114]⟩))) = true
      rw [h1, bls_cr]
      kernel_rfl
  · match i, hi with
    | 0, _ => rfl
    | 1, _ => rfl
theorem chk_exA : chkT exA = 0 := chk_ex (by kernel_rfl) (by kernel_rfl)
theorem chk_exB : chkT exB = 0 := chk_ex (by kernel_rfl) (by kernel_rfl)
theorem inL_ex {x y x' y' : Int} (h0 : inRS (asR x y)) (h1 : inRS (asR x' y')) : inL [⟨⟨#[99]⟩, ⟨#[114]⟩, asR x y⟩, ⟨⟨#[114]⟩, ⟨#[]⟩, asR x' y'⟩] := by
  refine ⟨fun h hm => ?_, by simp⟩
  simp only [List.mem_cons, List.not_mem_nil, or_false] at hm
  rcases hm with rfl | rfl
  · exact ⟨by show (1 : Nat) ≤ 1000000; omega, by show (1 : Nat) ≤ 1000000; omega, h0, by simp [lenRS, asR]⟩
  · exact ⟨by show (1 : Nat) ≤ 1000000; omega, by show (0 : Nat) ≤ 1000000; omega, h1, by simp [lenRS, asR]⟩
theorem inRS_as {x y : Int} (h : 0 ≤ x ∧ x ≤ 4294967295 ∧ 0 ≤ y ∧ y ≤ 4294967295) : inRS (asR x y) := by
  refine ⟨fun s hs => absurd hs (by simp [asR]), fun s hs => absurd hs (by simp [asR]), fun s hs => ?_⟩
  simp only [asR, List.mem_cons, List.not_mem_nil, or_false] at hs
  subst hs
  exact h
theorem inL_exA : inL exA := inL_ex (inRS_as (by omega)) (inRS_as (by omega))
theorem inL_exB : inL exB := inL_ex (inRS_as (by omega)) (inRS_as (by omega))
theorem small_ex {x y x' y' : Int} {a b c d : ByteArray} : small [⟨a, b, asR x y⟩, ⟨c, d, asR x' y'⟩] := by
  intro h hm
  simp only [List.mem_cons, List.not_mem_nil, or_false] at hm
  rcases hm with rfl | rfl <;> simp [lenRS, asR]
theorem planE_ex : planE exA exB = 0 := by
  unfold planE
  rw [if_neg (by rw [chk_exA]; simp), if_neg (by rw [chk_exB]; simp)]
  kernel_rfl
theorem planS_ex : planS exA exB = exS := by kernel_rfl
theorem plan_at {a b : List HD} (ia : inL a) (ib : inL b) (sa : chkT a = 0 → small a) (sb : chkT b = 0 → small b) : SPlan [.rd 5 (hRows a), .rd 5 (hRows b)] =
    if planE a b ≠ 0 then some ⟨.tup [.nils, .int .i64 (planE a b)], []⟩ else some ⟨.tup [.rd 4 (oRowsS (planS a b)), .int .i64 0], []⟩ := by
  simp only [SPlan, hRows_parse]; rw [if_pos ⟨ia, ib, sa, sb⟩]
theorem eqSs_ex : eqSs exS exS = true := by kernel_rfl
theorem runs_law21_alive : Runs Try.prog 21 [] ⟨.bool true, []⟩ := by
  have hp := plan_at inL_exA inL_exB (fun _ => small_ex) (fun _ => small_ex)
  rw [if_neg (by rw [planE_ex]; simp), planS_ex] at hp
  have hin : ∀ s ∈ exS, inSO s := by
    intro s hs
    simp only [exS, List.mem_cons, List.not_mem_nil, or_false] at hs
    rcases hs with rfl | rfl | rfl | rfl <;> exact ⟨inRS_as (by omega), by simp [lenRS, asR]⟩
  have hs : SSmS [.rd 4 (oRowsS exS), .rd 4 (oRowsS exS)] = some ⟨.bool true, []⟩ := by
    simp only [SSmS, oRowsS_parse]; rw [if_pos ⟨hin, hin, by simp [exS], by simp [exS]⟩, eqSs_ex]
  have hT : ((((T0.add 36 (oneS [] ⟨.tup [.rd 5 (hRows exA), .rd 5 (hRows exB)], []⟩)).add 22 SPlan).add 37 SAs2).add 29 SSmS).ok Try.prog :=
    Tab.add_ok (Tab.add_ok (Tab.add_ok (Tab.add_ok (T0_ok _) (oneS_ok runs_law21_example)) runs_shrink_Plan) runs_law21_as) runs_ref21_SameSteps
  have ho := oneS_self (args := []) (r := ⟨.tup [.rd 5 (hRows exA), .rd 5 (hRows exB)], []⟩)
  refine Runs.of_body Try.func21 (by decide) rfl (by simp [Try.f21]) ?_
  have hrow : oRowsS exS = [[.str ⟨#[99]⟩, .rd 4 [], .rd 4 [], .rd 2 [[.int .u32 5, .int .u32 5]]], [.str ⟨#[114]⟩, .rd 4 [], .rd 4 [], .rd 2 [[.int .u32 4, .int .u32 10]]], [.str ⟨#[114]⟩, .rd 4 [], .rd 4 [], .rd 2 [[.int .u32 4, .int .u32 20]]], [.str ⟨#[99]⟩, .rd 4 [], .rd 4 [], .rd 2 [[.int .u32 5, .int .u32 15]]]] := rfl
  rw [hrow] at hp hs
  refine W.seqE hT mixed M0 (by kernel_rfl) ?_
  simp [Try.f21]
  refine W.seqE hT mixed M0 (by kernel_rfl) ?_
  simp [ho, hp]
  refine W.of_WE hT mixed M0 _ (by kernel_rfl) ?_
  simp [SAs2, asR, RS.cells, sRows, aRows, AS.row, hs]

end Go.Proofs.Ytkcmgjagjbiinaa.AL
