import Derived.Test.YtnhgdkcddjbpgaaC03mW7
import Derived.Shelf.GgSortFunc.InsertionK
import Derived.Shelf.SlSortCmp.InsertionK
/- What single functions compute: a part of the proof; no conditions. -/
set_option linter.unusedVariables false
set_option linter.unusedSimpArgs false
set_option linter.unusedSectionVars false
namespace Go.Proofs.Ytnhgdkcddjbpgaa.AL
open Go
/-! The reference's operations, edge by edge. -/
def holdP (d : Int) (A B : Prop) : Prop := if d = 0 then A ∨ B else if d = 1 then A ∧ B else A ∧ ¬ B
theorem holdP_or {d : Int} {A B : Prop} (h : holdP d A B) : A ∨ B := by
  unfold holdP at h
  split at h
  · exact h
  · split at h
    · exact .inl h.1
    · exact .inl h.1
theorem hold_iff {d : Int} {a b : Bool} {A B : Prop} (ha : a = true ↔ A) (hb : b = true ↔ B) : hold d a b = true ↔ holdP d A B := by
  unfold hold holdP
  split
  · rw [Bool.or_eq_true, ha, hb]
  · split
    · rw [Bool.and_eq_true, ha, hb]
    · rw [Bool.and_eq_true, ha, Bool.not_eq_true', Bool.eq_false_iff, ne_eq, hb]
theorem holdP_congr {d : Int} {A B A' B' : Prop} (ha : A ↔ A') (hb : B ↔ B') : holdP d A B ↔ holdP d A' B' := by
  rw [propext ha, propext hb]
theorem inLA_mem {f : Int} {l : List SP} (hl : ∀ s ∈ l, Vf f s) {p : Int × Int} (hp : inA p.1 p.2) : inLA l p = true ↔ mem l (numA p) := by
  unfold inLA mem
  rw [List.any_eq_true]
  constructor
  · rintro ⟨s, hs, h⟩
    unfold inS at h
    rw [Bool.and_eq_true, decide_eq_true_eq, decide_eq_true_eq, cmpA_le (hl s hs).a hp, cmpA_le hp (hl s hs).b] at h
    exact ⟨s, hs, h⟩
  · rintro ⟨s, hs, h⟩
    refine ⟨s, hs, ?_⟩
    unfold inS
    rw [Bool.and_eq_true, decide_eq_true_eq, decide_eq_true_eq, cmpA_le (hl s hs).a hp, cmpA_le hp (hl s hs).b]
    exact h
def ltR (p q : Int × Int) : Prop := numA p < numA q
structure Inc (f : Int) (E : List (Int × Int)) : Prop where
  v : ∀ p ∈ E, inA p.1 p.2 ∧ cAddr f p.1 p.2 = true
  p : E.Pairwise ltR
theorem insA_inc {f : Int} {a : Int × Int} (ha : inA a.1 a.2 ∧ cAddr f a.1 a.2 = true) : ∀ {E : List (Int × Int)}, Inc f E → Inc f (insA E a)
  | [], _ => ⟨fun p hp => by simp [insA] at hp; subst hp; exact ha, by simp [insA]⟩
  | x :: l, h => by
    obtain ⟨px, pl⟩ := List.pairwise_cons.1 h.p
    have hx := h.v x (by simp)
    have hl : Inc f l := ⟨fun p hp => h.v p (by simp [hp]), pl⟩
    refine ⟨fun p hp => ?_, ?_⟩
    · rcases insA_mem.1 hp with rfl | hp
      · exact ha
      · exact h.v p hp
    · unfold insA
      split
      · rename_i c
        have c' := (cmpA_lt hx.1 ha.1).1 c
        refine List.pairwise_cons.2 ⟨fun q hq => ?_, (insA_inc ha hl).p⟩
        rcases insA_mem.1 hq with rfl | hq
        · exact c'
        · exact px q hq
      · rename_i c
        split
        · exact h.p
        · rename_i ne
          have c' : numA a ≤ numA x := by
            rcases Int.lt_or_le (numA x) (numA a) with g | g
            · exact absurd ((cmpA_lt hx.1 ha.1).2 g) c
            · exact g
          have c2 : numA a ≠ numA x := fun e => ne (numA_inj ⟨hx.1.2.2.1, hx.1.2.2.2⟩ ⟨ha.1.2.2.1, ha.1.2.2.2⟩ e.symm)
          refine List.pairwise_cons.2 ⟨fun q hq => ?_, h.p⟩
          rcases List.mem_cons.1 hq with rfl | hq
          · show numA _ < numA _; omega
          · have := px q hq
            unfold ltR at *
            omega
theorem edg_fold {f : Int} : ∀ (l : List SP) (E : List (Int × Int)), (∀ s ∈ l, Vf f s) → Inc f E →
    Inc f (l.foldl (edgStep f) E) ∧ (∀ p ∈ E, p ∈ l.foldl (edgStep f) E) ∧ ∀ s ∈ l, (∃ p ∈ l.foldl (edgStep f) E, numA p = s.lo) ∧ (s.hi + 1 < 2 ^ widN f → ∃ p ∈ l.foldl (edgStep f) E, numA p = s.hi + 1)
  | [], E, _, hE => ⟨hE, fun p hp => hp, fun s hs => by cases hs⟩
  | s :: l, E, hl, hE => by
    have hs := hl s (by simp)
    have h1 : Inc f (insA E (s.h, s.l)) := insA_inc ⟨hs.a, hs.ca⟩ hE
    have hn := nextA_num hs.b hs.cb
    have key : Inc f (edgStep f E s) ∧ (∀ p ∈ E, p ∈ edgStep f E s) ∧ (∃ p ∈ edgStep f E s, numA p = s.lo) ∧ (s.hi + 1 < 2 ^ widN f → ∃ p ∈ edgStep f E s, numA p = s.hi + 1) := by
      unfold edgStep
      rcases ltge (numA (s.h', s.l') + 1) (2 ^ widN f) with g | g
      · obtain ⟨u, v, e1, e2, e3⟩ := hn.1 g
        rw [e1]
        simp only [if_true]
        have hcv : cAddr f u v = true := cAddr_num hs.f46 e3 (by rw [e2]; exact g)
        refine ⟨insA_inc ⟨e3, hcv⟩ h1, fun p hp => insA_mem.2 (.inr (insA_mem.2 (.inr hp))), ⟨_, insA_mem.2 (.inr (insA_mem.2 (.inl rfl))), rfl⟩, fun _ => ⟨_, insA_mem.2 (.inl rfl), e2⟩⟩
      · rw [hn.2 g]
        simp only [Bool.false_eq_true, if_false]
        refine ⟨h1, fun p hp => insA_mem.2 (.inr hp), ⟨_, insA_mem.2 (.inl rfl), rfl⟩, fun c => ?_⟩
        have : numA (s.h', s.l') = s.hi := rfl
        omega
    obtain ⟨k1, k2, k3, k4⟩ := key
    obtain ⟨r1, r2, r3⟩ := edg_fold l (edgStep f E s) (fun t ht => hl t (by simp [ht])) k1
    rw [List.foldl_cons]
    refine ⟨r1, fun p hp => r2 p (k2 p hp), fun t ht => ?_⟩
    rcases List.mem_cons.1 ht with rfl | ht
    · refine ⟨?_, fun c => ?_⟩
      · obtain ⟨p, hp, e⟩ := k3; exact ⟨p, r2 p hp, e⟩
      · obtain ⟨p, hp, e⟩ := k4 c; exact ⟨p, r2 p hp, e⟩
    · exact r3 t ht
def bnd (f : Int) (E : List (Int × Int)) (k : Nat) : Int := if h : k < E.length then numA E[k] else 2 ^ widN f
theorem bnd_lt {f : Int} {E : List (Int × Int)} (h : Inc f E) {i k : Nat} (hi : i < E.length) (hik : i < k) : numA E[i] < bnd f E k := by
  unfold bnd
  split
  · rename_i hk
    exact List.pairwise_iff_getElem.1 h.p i k hi hk hik
  · have := h.v _ (List.getElem_mem hi)
    exact (numA_lt this.1 this.2).2
theorem bnd_le {f : Int} {E : List (Int × Int)} (h : Inc f E) {i k : Nat} (hi : i < E.length) (hik : i ≤ k) : numA E[i] ≤ bnd f E k := by
  rcases Nat.lt_or_ge i k with g | g
  · exact Int.le_of_lt (bnd_lt h hi g)
  · have : i = k := by omega
    subst this
    unfold bnd
    rw [dif_pos hi]
    exact Int.le_refl _
/-- Between two edges nothing changes. -/
theorem mem_const {f : Int} {E : List (Int × Int)} (hE : Inc f E) {l : List SP} (hl : ∀ s ∈ l, Vf f s) (he : ∀ s ∈ l, (∃ p ∈ E, numA p = s.lo) ∧ (s.hi + 1 < 2 ^ widN f → ∃ p ∈ E, numA p = s.hi + 1)) {k : Nat} (hk : k < E.length) {N : Int} (h1 : numA E[k] ≤ N) (h2 : N < bnd f E (k + 1)) : mem l N ↔ mem l (numA E[k]) := by
  have hbl : bnd f E (k + 1) ≤ 2 ^ widN f := by
    unfold bnd
    split
    · rename_i h
      have := hE.v _ (List.getElem_mem h)
      exact Int.le_of_lt (numA_lt this.1 this.2).2
    · exact Int.le_refl _
  have key : ∀ s ∈ l, (s.lo ≤ N ∧ N ≤ s.hi) ↔ (s.lo ≤ numA E[k] ∧ numA E[k] ≤ s.hi) := by
    intro s hs
    obtain ⟨⟨p, hp, e1⟩, e2⟩ := he s hs
    obtain ⟨i, hi, rfl⟩ := List.mem_iff_getElem.1 hp
    have hlt := (hl s hs).lt
    constructor
    · rintro ⟨a1, a2⟩
      refine ⟨?_, by omega⟩
      rcases Nat.lt_or_ge k i with g | g
      · exfalso
        have : bnd f E (k + 1) ≤ numA E[i] := by
          unfold bnd
          rw [dif_pos (by omega)]
          rcases Nat.lt_or_ge (k + 1) i with g2 | g2
          · exact Int.le_of_lt (List.pairwise_iff_getElem.1 hE.p (k + 1) i (by omega) hi g2)
          · have : i = k + 1 := by omega
            subst this; exact Int.le_refl _
        omega
      · have := bnd_le hE hi g
        unfold bnd at this
        rw [dif_pos hk] at this
        omega
    · rintro ⟨a1, a2⟩
      refine ⟨by omega, ?_⟩
      rcases ltge (s.hi + 1) (2 ^ widN f) with g | g
      · obtain ⟨q, hq, e3⟩ := e2 g
        obtain ⟨j, hj, rfl⟩ := List.mem_iff_getElem.1 hq
        have hkj : k < j := by
          rcases Nat.lt_or_ge k j with g2 | g2
          · exact g2
          · have := bnd_le hE hj g2
            unfold bnd at this
            rw [dif_pos hk] at this
            omega
        have : bnd f E (k + 1) ≤ numA E[j] := by
          unfold bnd
          rw [dif_pos (by omega)]
          rcases Nat.lt_or_ge (k + 1) j with g2 | g2
          · exact Int.le_of_lt (List.pairwise_iff_getElem.1 hE.p (k + 1) j (by omega) hj g2)
          · have : j = k + 1 := by omega
            subst this; exact Int.le_refl _
        omega
      · omega
  constructor
  · rintro ⟨s, hs, h⟩; exact ⟨s, hs, (key s hs).1 h⟩
  · rintro ⟨s, hs, h⟩; exact ⟨s, hs, (key s hs).2 h⟩
theorem doneTo_num {f : Int} (hf : f = 4 ∨ f = 6) {E : List (Int × Int)} (hE : Inc f E) (h0 : ∀ p ∈ E, 0 ≤ numA p) {k : Nat} (hk : k < E.length) : inA (doneTo f E k).1 (doneTo f E k).2 ∧ numA (doneTo f E k) = bnd f E (k + 1) - 1 := by
  unfold doneTo bnd
  by_cases h : k + 1 < E.length
  · rw [if_pos h, dif_pos h]
    have hv := hE.v _ (List.getElem_mem h)
    have hlt : numA E[k] < numA E[k + 1] := List.pairwise_iff_getElem.1 hE.p k (k + 1) hk h (by omega)
    have hz := h0 _ (List.getElem_mem hk)
    have hp := (prevA_num hv.1).1 (by show 0 < numA E[k + 1]; omega)
    obtain ⟨u, v, e1, e2, e3⟩ := hp
    have hg : E.getD (k + 1) (0, 0) = E[k + 1] := by simp [h]
    rw [hg, e1]
    exact ⟨e3, e2⟩
  · rw [if_neg h, dif_neg h]
    have hA : inA 0 0 := ⟨by omega, by omega, by omega, by omega⟩
    refine ⟨lastA_rng hA (widN_le f), ?_⟩
    have hl := lastA_num (h := 0) (l := 0) (by omega) (by omega) (widN f)
    rw [hl]
    have : numA ((0 : Int), 0) = 0 := rfl
    rw [this, Int.zero_ediv, Int.zero_mul]
    omega
structure DI (f d : Int) (a b : List SP) (E : List (Int × Int)) (k : Nat) (D : Bool × List SP) : Prop where
  v : ∀ t ∈ D.2, Vf f t
  p : D.2.Pairwise gapR
  m : ∀ N, mem D.2 N ↔ 0 ≤ N ∧ N < bnd f E k ∧ holdP d (mem a N) (mem b N)
  o1 : D.1 = true → ∃ o t, D.2 = o ++ [t] ∧ t.hi + 1 = bnd f E k
  o2 : D.1 = false → ∀ t ∈ D.2, t.hi + 1 < bnd f E k
theorem DI_step {f d : Int} (hf : f = 4 ∨ f = 6) {a b : List SP} {E : List (Int × Int)} (hE : Inc f E) (ha : ∀ s ∈ a, Vf f s) (hb : ∀ s ∈ b, Vf f s)
    (he : ∀ s ∈ a ++ b, (∃ p ∈ E, numA p = s.lo) ∧ (s.hi + 1 < 2 ^ widN f → ∃ p ∈ E, numA p = s.hi + 1)) {k : Nat} (hk : k < E.length) (h : DI f d a b E k (dstA d f a b E k)) : DI f d a b E (k + 1) (dstA d f a b E (k + 1)) := by
  have h0 : ∀ p ∈ E, 0 ≤ numA p := fun p hp => (numA_lt (hE.v p hp).1 (hE.v p hp).2).1
  obtain ⟨t1, t2⟩ := doneTo_num hf hE h0 hk
  have hkA := hE.v _ (List.getElem_mem hk)
  have hg : E.getD k (0, 0) = E[k] := by simp [hk]
  have hbk : bnd f E k = numA E[k] := by unfold bnd; rw [dif_pos hk]
  have hlt : numA E[k] < bnd f E (k + 1) := bnd_lt hE hk (by omega)
  have hbl : bnd f E (k + 1) ≤ 2 ^ widN f := by
    unfold bnd
    split
    · rename_i h
      have := hE.v _ (List.getElem_mem h)
      exact Int.le_of_lt (numA_lt this.1 this.2).2
    · exact Int.le_refl _
  have hz := h0 _ (List.getElem_mem hk)
  have his : doneIs d a b E k = true ↔ holdP d (mem a (numA E[k])) (mem b (numA E[k])) := by
    unfold doneIs
    rw [hg]
    exact hold_iff (inLA_mem ha hkA.1) (inLA_mem hb hkA.1)
  have hc : ∀ N, numA E[k] ≤ N → N < bnd f E (k + 1) → (holdP d (mem a N) (mem b N) ↔ doneIs d a b E k = true) := by
    intro N h1 h2
    rw [his]
    exact holdP_congr (mem_const hE ha (fun s hs => he s (by simp [hs])) hk h1 h2) (mem_const hE hb (fun s hs => he s (by simp [hs])) hk h1 h2)
  have hm := h.m
  rw [hbk] at hm
  have step : ∀ N, (0 ≤ N ∧ N < bnd f E (k + 1) ∧ holdP d (mem a N) (mem b N)) ↔ mem (dstA d f a b E k).2 N ∨ (doneIs d a b E k = true ∧ numA E[k] ≤ N ∧ N < bnd f E (k + 1)) := by
    intro N
    rw [hm N]
    constructor
    · rintro ⟨a1, a2, a3⟩
      rcases Int.lt_or_le N (numA E[k]) with g | g
      · exact .inl ⟨a1, g, a3⟩
      · exact .inr ⟨(hc N g a2).1 a3, g, a2⟩
    · rintro (⟨a1, a2, a3⟩ | ⟨a1, a2, a3⟩)
      · exact ⟨a1, by omega, a3⟩
      · exact ⟨by omega, a3, (hc N a2 a3).2 a1⟩
  have hle : ∀ t ∈ (dstA d f a b E k).2, t.hi + 1 ≤ numA E[k] := by
    intro t ht
    have := (h.v t ht).le
    have := (hm t.hi).1 ⟨t, ht, this, Int.le_refl _⟩
    omega
  have ho1 := h.o1
  have ho2 := h.o2
  have hv := h.v
  have hp := h.p
  rw [hbk] at ho1 ho2
  rw [dstA]
  generalize dstA d f a b E k = D at *
  cases hi : doneIs d a b E k
  · rw [if_neg (by simp)]
    refine ⟨hv, hp, fun N => ?_, fun c => (by cases c), fun _ t ht => ?_⟩
    · rw [step N, hi]
      simp
    · have := hle t ht
      show t.hi + 1 < _
      omega
  · rw [if_pos rfl]
    cases ho : D.1
    · rw [if_neg (by simp)]
      have g2 := ho2 ho
      have elo : SP.lo ⟨(E.getD k (0, 0)).1, (E.getD k (0, 0)).2, (doneTo f E k).1, (doneTo f E k).2⟩ = numA E[k] := by rw [hg]; rfl
      have ehi : SP.hi ⟨(E.getD k (0, 0)).1, (E.getD k (0, 0)).2, (doneTo f E k).1, (doneTo f E k).2⟩ = bnd f E (k + 1) - 1 := t2
      have hvf : Vf f ⟨(E.getD k (0, 0)).1, (E.getD k (0, 0)).2, (doneTo f E k).1, (doneTo f E k).2⟩ := by
        refine Vf.mk' hf (by rw [hg]; exact hkA.1) t1 ?_ ?_
        · rw [elo, ehi]; omega
        · rw [ehi]; omega
      generalize (⟨(E.getD k (0, 0)).1, (E.getD k (0, 0)).2, (doneTo f E k).1, (doneTo f E k).2⟩ : SP) = t at *
      refine ⟨fun u hu => ?_, ?_, fun N => ?_, fun _ => ⟨D.2, t, rfl, by omega⟩, fun c => (by cases c)⟩
      · rcases List.mem_append.1 hu with hu | hu
        · exact hv u hu
        · simp only [List.mem_singleton] at hu
          subst hu; exact hvf
      · refine List.pairwise_append.2 ⟨hp, List.pairwise_singleton _ _, fun u hu w hw => ?_⟩
        simp only [List.mem_singleton] at hw
        subst hw
        have := g2 u hu
        unfold gapR
        omega
      · rw [step N, hi, mem_append, mem_one, elo, ehi]
        constructor
        · rintro (a1 | a1)
          · exact .inl a1
          · exact .inr ⟨rfl, a1.1, by omega⟩
        · rintro (a1 | a1)
          · exact .inl a1
          · exact .inr ⟨a1.2.1, by omega⟩
    · rw [if_pos rfl]
      obtain ⟨o, t, e, et⟩ := ho1 ho
      have es : setTo D.2 (doneTo f E k) = o ++ [⟨t.h, t.l, (doneTo f E k).1, (doneTo f E k).2⟩] := by
        unfold setTo
        rw [e]
        simp
      rw [es]
      have htm : t ∈ D.2 := by rw [e]; simp
      have hvt := hv t htm
      have hle := hvt.le
      have elo : SP.lo ⟨t.h, t.l, (doneTo f E k).1, (doneTo f E k).2⟩ = t.lo := rfl
      have ehi : SP.hi ⟨t.h, t.l, (doneTo f E k).1, (doneTo f E k).2⟩ = bnd f E (k + 1) - 1 := t2
      have hvf : Vf f ⟨t.h, t.l, (doneTo f E k).1, (doneTo f E k).2⟩ := by
        refine Vf.mk' hf hvt.a t1 ?_ ?_
        · rw [elo, ehi]; omega
        · rw [ehi]; omega
      rw [e] at hp step
      obtain ⟨p1, p2, p3⟩ := List.pairwise_append.1 hp
      generalize (⟨t.h, t.l, (doneTo f E k).1, (doneTo f E k).2⟩ : SP) = t' at *
      refine ⟨fun u hu => ?_, ?_, fun N => ?_, fun _ => ⟨o, t', rfl, by omega⟩, fun c => (by cases c)⟩
      · rcases List.mem_append.1 hu with hu | hu
        · exact hv u (by rw [e]; simp [hu])
        · simp only [List.mem_singleton] at hu
          subst hu; exact hvf
      · refine List.pairwise_append.2 ⟨p1, List.pairwise_singleton _ _, fun u hu w hw => ?_⟩
        simp only [List.mem_singleton] at hw
        subst hw
        have := p3 u hu t (by simp)
        unfold gapR at *
        omega
      · rw [step N, hi, mem_append, mem_one, mem_append, mem_one, elo, ehi]
        constructor
        · rintro (a1 | a1)
          · exact .inl (.inl a1)
          · rcases Int.lt_or_le N (numA E[k]) with g | g
            · exact .inl (.inr ⟨a1.1, by omega⟩)
            · exact .inr ⟨rfl, g, by omega⟩
        · rintro ((a1 | a1) | a1)
          · exact .inl a1
          · exact .inr ⟨a1.1, by omega⟩
          · exact .inr ⟨by omega, by omega⟩
/-- The reference's operation holds what it should. -/
theorem doneL_spec {f d : Int} (hf : f = 4 ∨ f = 6) {a b : List SP} (ha : ∀ s ∈ a, Vf f s) (hb : ∀ s ∈ b, Vf f s) : Nrm f (doneL d f a b) ∧ ∀ N, mem (doneL d f a b) N ↔ holdP d (mem a N) (mem b N) := by
  have hab : ∀ s ∈ a ++ b, Vf f s := fun s hs => (List.mem_append.1 hs).elim (ha s) (hb s)
  have hA : inA 0 0 := ⟨by omega, by omega, by omega, by omega⟩
  have z0 : numA ((0 : Int), 0) = 0 := rfl
  have hinc : Inc f [((0 : Int), (0 : Int))] := by
    refine ⟨fun p hp => ?_, List.pairwise_singleton _ _⟩
    simp only [List.mem_singleton] at hp
    subst hp
    exact ⟨hA, cAddr_num hf hA (by rw [z0]; exact ipow_pos _)⟩
  obtain ⟨hE, h1, h2⟩ := edg_fold (a ++ b) [(0, 0)] hab hinc
  have eE : (a ++ b).foldl (edgStep f) [(0, 0)] = edgL f (a ++ b) := rfl
  rw [eE] at hE h1 h2
  unfold doneL
  generalize edgL f (a ++ b) = E at *
  have h0 : ((0 : Int), (0 : Int)) ∈ E := h1 _ (by simp)
  have key : ∀ k, k ≤ E.length → DI f d a b E k (dstA d f a b E k) := by
    intro k
    induction k with
    | zero =>
      intro _
      have hb0 : bnd f E 0 ≤ 0 := by
        obtain ⟨i, hi, e⟩ := List.mem_iff_getElem.1 h0
        have := bnd_le hE (i := 0) (k := i) (by omega) (by omega)
        unfold bnd at this ⊢
        rw [dif_pos hi, e, z0] at this
        rw [dif_pos (by omega)]
        exact this
      refine ⟨fun t ht => (by cases ht), List.Pairwise.nil, fun N => ⟨fun h => absurd h mem_nil, fun h => ?_⟩, fun c => (by cases c), fun _ t ht => (by cases ht)⟩
      have := h.1
      have := h.2.1
      omega
    | succ k ih =>
      intro hk
      exact DI_step hf hE ha hb h2 (by omega) (ih (by omega))
  have hfin := key E.length (Nat.le_refl _)
  refine ⟨⟨hfin.v, hfin.p⟩, fun N => ?_⟩
  rw [hfin.m N]
  have hbl : bnd f E E.length = 2 ^ widN f := by unfold bnd; rw [dif_neg (by omega)]
  rw [hbl]
  constructor
  · exact fun h => h.2.2
  · intro h
    have hr := (holdP_or h).elim (mem_rng ha) (mem_rng hb)
    exact ⟨hr.1, hr.2, h⟩
/-- The difference is the reference's. -/
theorem min_done {f : Int} (hf : f = 4 ∨ f = 6) {a b : List SP} (ha : Nrm f a) (hb : Nrm f b) : minS a b = doneL 2 f a b := by
  obtain ⟨h1, h2⟩ := minS_spec ha hb
  obtain ⟨g1, g2⟩ := doneL_spec (d := 2) hf ha.v hb.v
  refine nrm_eq h1 g1 fun N => ?_
  rw [h2 N, g2 N]
  exact Iff.rfl
/-- A run is in a normal list if both ends are in one of its runs. -/
theorem min_ends {f : Int} {s : SP} {l : List SP} (hs : Vf f s) (hl : Nrm f l) : (minS [s] l).isEmpty = endsD l s.h s.l s.h' s.l' := by
  have hn : Nrm f [s] := ⟨fun t ht => by simp only [List.mem_singleton] at ht; subst ht; exact hs, List.pairwise_singleton _ _⟩
  obtain ⟨h1, h2⟩ := minS_spec hn hl
  have hle := hs.le
  rw [Bool.eq_iff_iff, List.isEmpty_iff, nrm_nil h1]
  have hend : endsD l s.h s.l s.h' s.l' = true ↔ ∃ t ∈ l, t.lo ≤ s.lo ∧ s.hi ≤ t.hi := by
    unfold endsD
    rw [List.any_eq_true]
    constructor
    · rintro ⟨t, ht, h⟩
      have vt := hl.v t ht
      unfold inS at h
      rw [Bool.and_eq_true, Bool.and_eq_true, Bool.and_eq_true, decide_eq_true_eq, decide_eq_true_eq, decide_eq_true_eq, decide_eq_true_eq, cmpA_le vt.a hs.a, cmpA_le hs.a vt.b, cmpA_le vt.a hs.b, cmpA_le hs.b vt.b] at h
      exact ⟨t, ht, h.1.1, h.2.2⟩
    · rintro ⟨t, ht, a1, a2⟩
      have vt := hl.v t ht
      refine ⟨t, ht, ?_⟩
      unfold inS
      rw [Bool.and_eq_true, Bool.and_eq_true, Bool.and_eq_true, decide_eq_true_eq, decide_eq_true_eq, decide_eq_true_eq, decide_eq_true_eq, cmpA_le vt.a hs.a, cmpA_le hs.a vt.b, cmpA_le vt.a hs.b, cmpA_le hs.b vt.b]
      exact ⟨⟨a1, Int.le_trans hle a2⟩, ⟨Int.le_trans a1 hle, a2⟩⟩
  rw [hend]
  constructor
  · intro h
    have all : ∀ N, s.lo ≤ N → N ≤ s.hi → mem l N := by
      intro N a1 a2
      exact Classical.byContradiction fun c => h N ((h2 N).2 ⟨mem_one.2 ⟨a1, a2⟩, c⟩)
    obtain ⟨t, ht, b1, b2⟩ := all s.lo (Int.le_refl _) hle
    refine ⟨t, ht, b1, ?_⟩
    rcases Int.lt_or_le t.hi s.hi with g | g
    · exfalso
      obtain ⟨u, hu, c1, c2⟩ := all (t.hi + 1) (by omega) (by omega)
      obtain ⟨i, hi, rfl⟩ := List.mem_iff_getElem.1 ht
      obtain ⟨j, hj, rfl⟩ := List.mem_iff_getElem.1 hu
      have hlei := (hl.v _ ht).le
      rcases Nat.lt_trichotomy i j with g2 | g2 | g2
      · have := List.pairwise_iff_getElem.1 hl.p i j hi hj g2
        unfold gapR at this
        omega
      · subst g2; omega
      · have := List.pairwise_iff_getElem.1 hl.p j i hj hi g2
        unfold gapR at this
        omega
    · exact g
  · rintro ⟨t, ht, a1, a2⟩ N hN
    obtain ⟨c1, c2⟩ := (h2 N).1 hN
    have := mem_one.1 c1
    exact c2 ⟨t, ht, by omega, by omega⟩
end Go.Proofs.Ytnhgdkcddjbpgaa.AL
namespace Go.Proofs.Ytnhgdkcddjbpgaa.AL
open Go
/-! What the questions answer, both ways. -/
theorem nrm_lst {r : RS} (hin : inRS r) (h : chkR r = 0) {k : Nat} (hk : k < 3) : Nrm (famK k) (r.lst k) := by
  obtain ⟨h1, h2⟩ := chkR_0.1 h
  obtain ⟨_, h3⟩ := chkdR_0.1 h1
  exact nrm_of (inSP_lst hin k) (h3 k hk) (h2 k hk)
theorem sub_eq {f : Int} (hf : f = 4 ∨ f = 6) {a b : List SP} (ha : Nrm f a) (hb : Nrm f b) : subL b a = subD f a b := by
  unfold subL subD
  rw [min_done hf hb ha]
theorem cont_eq {a b : RS} (ia : inRS a) (ib : inRS b) (ha : chkR a = 0) (hb : chkR b = 0) : contR a b = contD a b := by
  unfold contR contD
  have e0 : subL b.l4 a.l4 = subD 4 a.l4 b.l4 := sub_eq (.inl rfl) (nrm_lst ia ha (k := 0) (by omega)) (nrm_lst ib hb (k := 0) (by omega))
  have e1 : subL b.l6 a.l6 = subD 6 a.l6 b.l6 := sub_eq (.inr rfl) (nrm_lst ia ha (k := 1) (by omega)) (nrm_lst ib hb (k := 1) (by omega))
  have e2 : subL (b.la.map wideS) (a.la.map wideS) = subD 4 (a.la.map wideS) (b.la.map wideS) := sub_eq (.inl rfl) (nrm_lst ia ha (k := 2) (by omega)) (nrm_lst ib hb (k := 2) (by omega))
  rw [e0, e1, e2]
theorem pref_eq {r : RS} {f h l n : Int} (hin : inRS r) (hc : chkR r = 0) (hA : inA h l) (hp : chkP f h l n = 0) : (prefR r f h l n).isEmpty = prefD r f h l n := by
  unfold prefR prefD
  obtain ⟨j, rfl, hj, hca, hcut⟩ := chk_zero hp
  have hf := cAddr_46 hca
  have hw := widN_le f
  have hr := lastA_rng (k := widN f - j) hA (by omega)
  have hn : Nrm f (if f = 6 then r.l6 else r.l4) := by
    rcases hf with rfl | rfl
    · exact nrm_lst hin hc (k := 0) (by omega)
    · exact nrm_lst hin hc (k := 1) (by omega)
  have hnum := lastA_num (h := h) hA.2.2.1 hA.2.2.2 (widN f - j)
  have hlt := numA_lt hA hca
  have hcutn := cutA_num hA.2.2.1 hA.2.2.2 (widN f - j) (h := h)
  rw [hcut] at hcutn
  have hp0 := ipow_pos (widN f - j)
  have e2 : (2 : Int) ^ widN f = 2 ^ j * 2 ^ (widN f - j) := by rw [← Int.pow_add]; congr 1; omega
  have hv : Vf f ⟨h, l, (lastA h l (widN f - ((j : Int)).toNat)).1, (lastA h l (widN f - ((j : Int)).toNat)).2⟩ := by
    rw [Int.toNat_natCast]
    have eh : SP.hi ⟨h, l, (lastA h l (widN f - j)).1, (lastA h l (widN f - j)).2⟩ = numA (lastA h l (widN f - j)) := rfl
    have el : SP.lo ⟨h, l, (lastA h l (widN f - j)).1, (lastA h l (widN f - j)).2⟩ = numA (h, l) := rfl
    refine Vf.mk' hf hA hr ?_ ?_
    · rw [eh, el, hnum]; omega
    · rw [eh, hnum, e2]
      have h1 : numA (h, l) / 2 ^ (widN f - j) < 2 ^ j := by
        refine Int.ediv_lt_of_lt_mul hp0 ?_
        rw [← e2]; exact hlt.2
      have h2 : (numA (h, l) / 2 ^ (widN f - j) + 1) * 2 ^ (widN f - j) ≤ 2 ^ j * 2 ^ (widN f - j) := Int.mul_le_mul_of_nonneg_right (by omega) (by omega)
      rw [Int.add_mul, Int.one_mul] at h2
      omega
  exact min_ends hv hn
theorem has_eq {l : List AS} {x : Int} (hl : ∀ s ∈ l, inAS s) (hx0 : 0 ≤ x) (hx1 : x ≤ 4294967295) : l.any (inN x) = inLA (l.map wideS) (0, x) := by
  unfold inLA
  rw [List.any_map, Bool.eq_iff_iff, List.any_eq_true, List.any_eq_true]
  have key : ∀ s ∈ l, inN x s = ((fun s => inS s.h s.l s.h' s.l' (0, x).fst (0, x).snd) ∘ wideS) s := ?_
  · exact ⟨fun ⟨s, hs, h⟩ => ⟨s, hs, by rw [← key s hs]; exact h⟩, fun ⟨s, hs, h⟩ => ⟨s, hs, by rw [key s hs]; exact h⟩⟩
  intro s hs
  have h := hl s hs
  have h1 := inSP_wide h
  have i1 : inA (wideS s).h (wideS s).l := ⟨h1.1, h1.2.1, h1.2.2.1, h1.2.2.2.1⟩
  have i2 : inA (wideS s).h' (wideS s).l' := ⟨h1.2.2.2.2.1, h1.2.2.2.2.2.1, h1.2.2.2.2.2.2.1, h1.2.2.2.2.2.2.2⟩
  have i3 : inA 0 x := ⟨by omega, by omega, hx0, by omega⟩
  simp only [Function.comp, inN, inS]
  rw [Bool.eq_iff_iff, Bool.and_eq_true, Bool.and_eq_true, decide_eq_true_eq, decide_eq_true_eq, decide_eq_true_eq, decide_eq_true_eq, cmpA_le i1 i3, cmpA_le i3 i2]
  simp only [wideS, numA]
  omega
def RS0 : RS := ⟨[], [], []⟩
theorem emp_eq {a : RS} : decide (a.l4.length + a.l6.length + a.la.length = 0) = sameR a RS0 := by
  unfold sameR RS0
  have hz : ∀ m : List SP, m = [] ↔ m.length = 0 := fun m => List.length_eq_zero_iff.symm
  have hz2 : ∀ m : List AS, m = [] ↔ m.length = 0 := fun m => List.length_eq_zero_iff.symm
  rw [Bool.eq_iff_iff]
  simp only [Bool.and_eq_true, decide_eq_true_eq, hz, hz2]
  omega
end Go.Proofs.Ytnhgdkcddjbpgaa.AL
namespace Go.Proofs.Ytnhgdkcddjbpgaa.AL
open Go
/-! The union: sorted, then run by run. -/
def cfS (x y : SP) : Int := if cmpA x.h x.l y.h y.l = 0 then cmpA x.h' x.l' y.h' y.l' else cmpA x.h x.l y.h y.l
def ltS (x y : SP) : Prop := x.h < y.h ∨ (x.h = y.h ∧ (x.l < y.l ∨ (x.l = y.l ∧ (x.h' < y.h' ∨ (x.h' = y.h' ∧ x.l' < y.l')))))
theorem cfS_lt (x y : SP) : cfS x y < 0 ↔ ltS x y := by
  unfold cfS ltS cmpA
  constructor
  · intro h
    (repeat' split at h) <;> omega
  · intro h
    (repeat' split) <;> omega
def leS (x y : SP) : Bool := !decide (cfS y x < 0)
theorem leS_iff (x y : SP) : leS x y = true ↔ ¬ ltS y x := by
  unfold leS
  rw [← cfS_lt]
  simp
theorem leS_trans (a b c : SP) (h1 : leS a b = true) (h2 : leS b c = true) : leS a c = true := by
  rw [leS_iff] at *
  unfold ltS at *
  omega
theorem leS_total (a b : SP) : (leS a b || leS b a) = true := by
  rw [Bool.or_eq_true, leS_iff, leS_iff]
  unfold ltS
  omega
theorem cfS_tot (x y : SP) (h1 : decide (cfS x y < 0) = false) (h2 : decide (cfS y x < 0) = false) : x = y := by
  have e1 : ¬ ltS x y := by rw [← cfS_lt]; simpa using h1
  have e2 : ¬ ltS y x := by rw [← cfS_lt]; simpa using h2
  unfold ltS at *
  cases x; cases y
  simp only at *
  simp only [SP.mk.injEq]
  omega
def sortS (l : List SP) : List SP := l.mergeSort leS
theorem sortS_len (l : List SP) : (sortS l).length = l.length := List.length_mergeSort l
theorem sortS_mem {l : List SP} {s : SP} : s ∈ sortS l ↔ s ∈ l := (List.mergeSort_perm l leS).mem_iff
theorem sortS_pw (l : List SP) : (sortS l).Pairwise fun x y => leS x y = true := List.pairwise_mergeSort leS_trans leS_total l
def lastS (out : List SP) : SP := out.getD (out.length - 1) SP0
def ustep (out : List SP) (s : SP) : List SP :=
  if 0 < out.length ∧ aftB s.h s.l (lastS out).h' (lastS out).l' = false then (if cmpA (lastS out).h' (lastS out).l' s.h' s.l' < 0 then setTo out (s.h', s.l') else out) else out ++ [s]
def unionS (l : List SP) : List SP := (sortS l).foldl ustep []
theorem setTo_len (out : List SP) (p : Int × Int) : (setTo out p).length = out.length := by simp [setTo]
theorem ustep_len (out : List SP) (s : SP) : (ustep out s).length ≤ out.length + 1 := by
  unfold ustep
  split
  · split
    · rw [setTo_len]; omega
    · omega
  · simp
theorem ufold_len : ∀ (l out : List SP), (l.foldl ustep out).length ≤ out.length + l.length
  | [], out => by simp
  | s :: l, out => by
    have h1 := ustep_len out s
    have h2 := ufold_len l (ustep out s)
    simp only [List.foldl_cons, List.length_cons]
    omega
theorem ufold_take {l : List SP} {k : Nat} (h : k < l.length) : (l.take (k + 1)).foldl ustep [] = ustep ((l.take k).foldl ustep []) l[k] := by
  rw [take_snoc' l k h, List.foldl_append]; rfl
theorem ufold_tlen {l : List SP} (k : Nat) (h : k ≤ l.length) : ((l.take k).foldl ustep []).length ≤ k := by
  have := ufold_len (l.take k) []
  simp at this
  omega
theorem leS_lo {f : Int} {x y : SP} (hx : Vf f x) (hy : Vf f y) (h : leS x y = true) : x.lo ≤ y.lo := by
  rw [leS_iff] at h
  obtain ⟨a0, a1, a2, a3⟩ := hx.a
  obtain ⟨b0, b1, b2, b3⟩ := hy.a
  unfold ltS at h
  unfold SP.lo numA
  simp only
  omega
structure UI (f : Int) (d out : List SP) : Prop where
  v : ∀ t ∈ out, Vf f t
  p : out.Pairwise gapR
  m : ∀ N, mem out N ↔ mem d N
  lo : ∀ t ∈ out, ∃ x ∈ d, t.lo = x.lo
theorem UI_step {f : Int} {d out : List SP} {s : SP} (hs : Vf f s) (hd : ∀ x ∈ d, x.lo ≤ s.lo) (h : UI f d out) : UI f (d ++ [s]) (ustep out s) := by
  obtain ⟨hv, hp, hm, hlo⟩ := h
  have hsl := hs.le
  have app : (∀ t ∈ out, gapR t s) → UI f (d ++ [s]) (out ++ [s]) := by
    intro hg
    refine ⟨fun t ht => ?_, ?_, fun N => by rw [mem_append, mem_append, hm N], fun t ht => ?_⟩
    · rcases List.mem_append.1 ht with ht | ht
      · exact hv t ht
      · simp only [List.mem_singleton] at ht; subst ht; exact hs
    · refine List.pairwise_append.2 ⟨hp, List.pairwise_singleton _ _, fun u hu w hw => ?_⟩
      simp only [List.mem_singleton] at hw; subst hw; exact hg u hu
    · rcases List.mem_append.1 ht with ht | ht
      · obtain ⟨x, hx, e⟩ := hlo t ht
        exact ⟨x, by simp [hx], e⟩
      · simp only [List.mem_singleton] at ht; subst ht; exact ⟨_, by simp, rfl⟩
  rcases List.eq_nil_or_concat out with rfl | ⟨o, t, rfl⟩
  · unfold ustep
    rw [if_neg (by simp)]
    exact app (by simp)
  · rw [List.concat_eq_append] at *
    have hl : lastS (o ++ [t]) = t := by simp [lastS]
    have hvt := hv t (by simp)
    have htl := hvt.le
    obtain ⟨p1, p2, p3⟩ := List.pairwise_append.1 hp
    have hts : t.lo ≤ s.lo := by
      obtain ⟨x, hx, e⟩ := hlo t (by simp)
      rw [e]; exact hd x hx
    unfold ustep
    rw [hl]
    cases ha : aftB s.h s.l t.h' t.l'
    · have hna : ¬ t.hi + 1 < s.lo := by
        intro hc
        have := (aftB_iff hs.a hvt.b).2 hc
        rw [ha] at this; cases this
      rw [if_pos ⟨by simp, rfl⟩]
      by_cases hc : cmpA t.h' t.l' s.h' s.l' < 0
      · rw [if_pos hc]
        have hlt := (cmpA_lt hvt.b hs.b).1 hc
        have hlt' : t.hi < s.hi := hlt
        have es : setTo (o ++ [t]) (s.h', s.l') = o ++ [⟨t.h, t.l, s.h', s.l'⟩] := by
          unfold setTo
          simp
        rw [es]
        have e1 : SP.lo ⟨t.h, t.l, s.h', s.l'⟩ = t.lo := rfl
        have e2 : SP.hi ⟨t.h, t.l, s.h', s.l'⟩ = s.hi := rfl
        have hvn : Vf f ⟨t.h, t.l, s.h', s.l'⟩ := Vf.mk' hs.f46 hvt.a hs.b (by rw [e1, e2]; omega) (by rw [e2]; exact hs.lt)
        generalize (⟨t.h, t.l, s.h', s.l'⟩ : SP) = t' at *
        refine ⟨fun u hu => ?_, ?_, fun N => ?_, fun u hu => ?_⟩
        · rcases List.mem_append.1 hu with hu | hu
          · exact hv u (by simp [hu])
          · simp only [List.mem_singleton] at hu; subst hu; exact hvn
        · refine List.pairwise_append.2 ⟨p1, List.pairwise_singleton _ _, fun u hu w hw => ?_⟩
          simp only [List.mem_singleton] at hw; subst hw
          have := p3 u hu t (by simp)
          unfold gapR at *
          omega
        · rw [mem_append, mem_one, e1, e2, mem_append, mem_one, ← hm N, mem_append, mem_one]
          constructor
          · rintro (a | a)
            · exact .inl (.inl a)
            · rcases Int.lt_or_le t.hi N with g | g
              · exact .inr ⟨by omega, a.2⟩
              · exact .inl (.inr ⟨a.1, g⟩)
          · rintro ((a | a) | a)
            · exact .inl a
            · exact .inr ⟨a.1, by omega⟩
            · exact .inr ⟨by omega, a.2⟩
        · rcases List.mem_append.1 hu with hu | hu
          · obtain ⟨x, hx, e⟩ := hlo u (by simp [hu])
            exact ⟨x, by simp [hx], e⟩
          · simp only [List.mem_singleton] at hu; subst hu
            obtain ⟨x, hx, e⟩ := hlo t (by simp)
            exact ⟨x, by simp [hx], by rw [e1, e]⟩
      · rw [if_neg hc]
        have hge : s.hi ≤ t.hi := by
          rcases Int.lt_or_le t.hi s.hi with g | g
          · exact absurd ((cmpA_lt hvt.b hs.b).2 g) hc
          · exact g
        refine ⟨hv, hp, fun N => ?_, fun u hu => ?_⟩
        · rw [mem_append (l := d), mem_one, ← hm N]
          constructor
          · exact .inl
          · rintro (a | a)
            · exact a
            · exact mem_append.2 (.inr (mem_one.2 ⟨by omega, by omega⟩))
        · obtain ⟨x, hx, e⟩ := hlo u hu
          exact ⟨x, by simp [hx], e⟩
    · rw [if_neg (by simp)]
      have hg := (aftB_iff hs.a hvt.b).1 ha
      have hg' : t.hi + 1 < s.lo := hg
      refine app fun u hu => ?_
      rcases List.mem_append.1 hu with hu | hu
      · have := p3 u hu t (by simp)
        unfold gapR at *
        omega
      · simp only [List.mem_singleton] at hu; subst hu; exact hg'
theorem union_spec {f : Int} {l : List SP} (hl : ∀ s ∈ l, Vf f s) : Nrm f (unionS l) ∧ ∀ N, mem (unionS l) N ↔ mem l N := by
  have hv : ∀ s ∈ sortS l, Vf f s := fun s hs => hl s (sortS_mem.1 hs)
  have key : ∀ k, k ≤ (sortS l).length → UI f ((sortS l).take k) (((sortS l).take k).foldl ustep []) := by
    intro k
    induction k with
    | zero =>
      intro _
      exact ⟨fun t ht => (by cases ht), List.Pairwise.nil, fun N => Iff.rfl, fun t ht => (by cases ht)⟩
    | succ k ih =>
      intro hk
      have hk' : k < (sortS l).length := hk
      rw [ufold_take hk', take_snoc' _ k hk']
      refine UI_step (hv _ (List.getElem_mem hk')) (fun x hx => ?_) (ih (by omega))
      obtain ⟨i, hi, rfl⟩ := List.mem_take_iff_getElem.1 hx
      have := List.pairwise_iff_getElem.1 (sortS_pw l) i k (by omega) hk' (by omega)
      exact leS_lo (hv _ (List.getElem_mem _)) (hv _ (List.getElem_mem _)) this
  have := key _ (Nat.le_refl _)
  rw [List.take_length] at this
  refine ⟨⟨this.v, this.p⟩, fun N => ?_⟩
  rw [show unionS l = (sortS l).foldl ustep [] from rfl, this.m N]
  exact ⟨fun ⟨s, hs, h⟩ => ⟨s, sortS_mem.1 hs, h⟩, fun ⟨s, hs, h⟩ => ⟨s, sortS_mem.2 hs, h⟩⟩
/-- The union of spans is the reference's. -/
theorem union_done {f : Int} (hf : f = 4 ∨ f = 6) {a b : List SP} (ha : ∀ s ∈ a, Vf f s) (hb : ∀ s ∈ b, Vf f s) : unionS (a ++ b) = doneL 0 f a b := by
  obtain ⟨h1, h2⟩ := union_spec (l := a ++ b) (fun s hs => (List.mem_append.1 hs).elim (ha s) (hb s))
  obtain ⟨g1, g2⟩ := doneL_spec (d := 0) hf ha hb
  refine nrm_eq h1 g1 fun N => ?_
  rw [h2 N, g2 N, mem_append]
  exact Iff.rfl
end Go.Proofs.Ytnhgdkcddjbpgaa.AL
namespace Go.Proofs.Ytnhgdkcddjbpgaa.AL
open Go
/-! The intersection: two lists, side by side. -/
def clipS (x y : SP) : SP :=
  ⟨if 0 < cmpA y.h y.l x.h x.l then y.h else x.h, if 0 < cmpA y.h y.l x.h x.l then y.l else x.l, if cmpA y.h' y.l' x.h' x.l' < 0 then y.h' else x.h', if cmpA y.h' y.l' x.h' x.l' < 0 then y.l' else x.l'⟩
def isC (x y : SP) : Bool := decide (cmpA (clipS x y).h (clipS x y).l (clipS x y).h' (clipS x y).l' ≤ 0)
def oneC (x y : SP) : List SP := if isC x y = true then [clipS x y] else []
def fstC (x y : SP) : Bool := decide (cmpA x.h' x.l' y.h' y.l' < 0)
def interF : Nat → List SP → List SP → List SP
  | 0, _, _ => []
  | n + 1, x :: a, y :: b => oneC x y ++ (if fstC x y = true then interF n a (y :: b) else interF n (x :: a) b)
  | _ + 1, _, _ => []
def interS (a b : List SP) : List SP := interF (a.length + b.length) a b
theorem interS_nl (b : List SP) : interS [] b = [] := by
  unfold interS
  cases h : ([] : List SP).length + b.length <;> rfl
theorem interS_nr (a : List SP) : interS a [] = [] := by
  unfold interS
  cases h : a.length + ([] : List SP).length with
  | zero => rfl
  | succ n => cases a <;> rfl
theorem interS_cons (x y : SP) (a b : List SP) : interS (x :: a) (y :: b) = oneC x y ++ (if fstC x y = true then interS a (y :: b) else interS (x :: a) b) := by
  unfold interS
  rw [show (x :: a).length + (y :: b).length = (a.length + (y :: b).length) + 1 by simp only [List.length_cons]; omega, interF]
  congr 1
  split
  · rfl
  · congr 1
    simp only [List.length_cons]
    omega
section
variable {f : Int} {x y : SP}
theorem clip_lo (hx : Vf f x) (hy : Vf f y) : (clipS x y).lo = if x.lo < y.lo then y.lo else x.lo := by
  have h1 := cmpA_lt hx.a hy.a
  have h2 := cmpA_lt hy.a hx.a
  have e : (0 < cmpA y.h y.l x.h x.l) ↔ x.lo < y.lo := by
    unfold SP.lo
    rw [← h1]
    unfold cmpA
    constructor
    · intro h
      (repeat' split at h) <;> (repeat' split) <;> omega
    · intro h
      (repeat' split at h) <;> (repeat' split) <;> omega
  unfold clipS SP.lo
  by_cases h : 0 < cmpA y.h y.l x.h x.l
  · have h' := e.1 h
    unfold SP.lo at h'
    simp only [if_pos h]
    rw [if_pos h']
  · have h' : ¬ numA (x.h, x.l) < numA (y.h, y.l) := fun q => h (e.2 q)
    simp only [if_neg h]
    rw [if_neg h']
theorem clip_hi (hx : Vf f x) (hy : Vf f y) : (clipS x y).hi = if y.hi < x.hi then y.hi else x.hi := by
  have e := cmpA_lt hy.b hx.b
  unfold clipS SP.hi
  by_cases h : cmpA y.h' y.l' x.h' x.l' < 0
  · simp only [if_pos h]
    rw [if_pos (e.1 h)]
  · simp only [if_neg h]
    rw [if_neg (fun q => h (e.2 q))]
theorem clip_a (hx : Vf f x) (hy : Vf f y) : inA (clipS x y).h (clipS x y).l := by
  unfold clipS
  by_cases h : 0 < cmpA y.h y.l x.h x.l
  · simp only [if_pos h]; exact hy.a
  · simp only [if_neg h]; exact hx.a
theorem clip_b (hx : Vf f x) (hy : Vf f y) : inA (clipS x y).h' (clipS x y).l' := by
  unfold clipS
  by_cases h : cmpA y.h' y.l' x.h' x.l' < 0
  · simp only [if_pos h]; exact hy.b
  · simp only [if_neg h]; exact hx.b
theorem isC_iff (hx : Vf f x) (hy : Vf f y) : isC x y = true ↔ (clipS x y).lo ≤ (clipS x y).hi := by
  have h := cmpA_lt (clip_b hx hy) (clip_a hx hy)
  unfold isC
  rw [decide_eq_true_eq]
  have e : (cmpA (clipS x y).h (clipS x y).l (clipS x y).h' (clipS x y).l' ≤ 0) ↔ ¬ cmpA (clipS x y).h' (clipS x y).l' (clipS x y).h (clipS x y).l < 0 := by
    generalize clipS x y = c
    unfold cmpA
    constructor
    · intro h
      (repeat' split at h) <;> (repeat' split) <;> omega
    · intro h
      (repeat' split at h) <;> (repeat' split) <;> omega
  rw [e, h]
  unfold SP.lo SP.hi
  omega
theorem fstC_iff (hx : Vf f x) (hy : Vf f y) : fstC x y = true ↔ x.hi < y.hi := by
  unfold fstC
  rw [decide_eq_true_eq, cmpA_lt hx.b hy.b]
  exact Iff.rfl
theorem oneC_spec (hx : Vf f x) (hy : Vf f y) : ∀ t ∈ oneC x y, Vf f t ∧ t.hi ≤ x.hi ∧ t.hi ≤ y.hi ∧ x.lo ≤ t.lo ∧ y.lo ≤ t.lo := by
  intro t ht
  unfold oneC at ht
  split at ht
  · rename_i hc
    simp only [List.mem_singleton] at ht
    subst ht
    have h1 := clip_lo hx hy
    have h2 := clip_hi hx hy
    have h3 := (isC_iff hx hy).1 hc
    have := hx.lt
    have := hy.lt
    refine ⟨Vf.mk' hx.f46 (clip_a hx hy) (clip_b hx hy) h3 ?_, ?_, ?_, ?_, ?_⟩
    · rw [h2]; split <;> omega
    · rw [h2]; split <;> omega
    · rw [h2]; split <;> omega
    · rw [h1]; split <;> omega
    · rw [h1]; split <;> omega
  · cases ht
theorem oneC_mem (hx : Vf f x) (hy : Vf f y) (N : Int) : mem (oneC x y) N ↔ (x.lo ≤ N ∧ N ≤ x.hi) ∧ (y.lo ≤ N ∧ N ≤ y.hi) := by
  have h1 := clip_lo hx hy
  have h2 := clip_hi hx hy
  unfold oneC
  by_cases hc : isC x y = true
  · rw [if_pos hc, mem_one, h1, h2]
    constructor
    · intro h
      (repeat' split at h) <;> omega
    · intro h
      constructor <;> split <;> omega
  · rw [if_neg hc]
    have h3 := fun q => hc ((isC_iff hx hy).2 q)
    rw [h1, h2] at h3
    refine ⟨fun h => absurd h mem_nil, fun h => absurd ?_ h3⟩
    split <;> split <;> omega
end
theorem inter_low {f : Int} : ∀ (n : Nat) (a b : List SP), a.length + b.length ≤ n → Nrm f a → Nrm f b → ∀ t ∈ interS a b, (∃ u ∈ a, u.lo ≤ t.lo) ∧ (∃ v ∈ b, v.lo ≤ t.lo) ∧ Vf f t
  | _, [], b, _, _, _, t, ht => by rw [interS_nl] at ht; cases ht
  | _, x :: a, [], _, _, _, t, ht => by rw [interS_nr] at ht; cases ht
  | 0, x :: a, y :: b, hn, _, _, t, ht => by simp at hn
  | n + 1, x :: a, y :: b, hn, ha, hb, t, ht => by
    have hx := ha.v x (by simp)
    have hy := hb.v y (by simp)
    have ha' : Nrm f a := ⟨fun s hs => ha.v s (by simp [hs]), (List.pairwise_cons.1 ha.p).2⟩
    have hb' : Nrm f b := ⟨fun s hs => hb.v s (by simp [hs]), (List.pairwise_cons.1 hb.p).2⟩
    simp only [List.length_cons] at hn
    rw [interS_cons] at ht
    rcases List.mem_append.1 ht with ht | ht
    · obtain ⟨h1, _, _, h4, h5⟩ := oneC_spec hx hy t ht
      exact ⟨⟨x, by simp, h4⟩, ⟨y, by simp, h5⟩, h1⟩
    · split at ht
      · obtain ⟨⟨u, hu, h1⟩, ⟨v, hv, h2⟩, h3⟩ := inter_low n a (y :: b) (by simp only [List.length_cons]; omega) ha' hb t ht
        exact ⟨⟨u, by simp [hu], h1⟩, ⟨v, hv, h2⟩, h3⟩
      · obtain ⟨⟨u, hu, h1⟩, ⟨v, hv, h2⟩, h3⟩ := inter_low n (x :: a) b (by simp only [List.length_cons]; omega) ha hb' t ht
        exact ⟨⟨u, hu, h1⟩, ⟨v, by simp [hv], h2⟩, h3⟩
theorem inter_spec' {f : Int} : ∀ (n : Nat) (a b : List SP), a.length + b.length ≤ n → Nrm f a → Nrm f b → Nrm f (interS a b) ∧ ∀ N, mem (interS a b) N ↔ mem a N ∧ mem b N
  | _, [], b, _, _, _ => by rw [interS_nl]; exact ⟨⟨fun s hs => (by cases hs), List.Pairwise.nil⟩, fun N => ⟨fun h => absurd h mem_nil, fun h => absurd h.1 mem_nil⟩⟩
  | _, x :: a, [], _, _, _ => by rw [interS_nr]; exact ⟨⟨fun s hs => (by cases hs), List.Pairwise.nil⟩, fun N => ⟨fun h => absurd h mem_nil, fun h => absurd h.2 mem_nil⟩⟩
  | 0, x :: a, y :: b, hn, _, _ => by simp at hn
  | n + 1, x :: a, y :: b, hn, ha, hb => by
    have hx := ha.v x (by simp)
    have hy := hb.v y (by simp)
    have ha' : Nrm f a := ⟨fun s hs => ha.v s (by simp [hs]), (List.pairwise_cons.1 ha.p).2⟩
    have hb' : Nrm f b := ⟨fun s hs => hb.v s (by simp [hs]), (List.pairwise_cons.1 hb.p).2⟩
    have ga := (List.pairwise_cons.1 ha.p).1
    have gb := (List.pairwise_cons.1 hb.p).1
    have hone := oneC_spec hx hy
    have hp1 : (oneC x y).Pairwise gapR := by unfold oneC; split <;> simp
    simp only [List.length_cons] at hn
    rw [interS_cons]
    by_cases hf : fstC x y = true
    · rw [if_pos hf]
      have hlt := (fstC_iff hx hy).1 hf
      obtain ⟨h1, h2⟩ := inter_spec' n a (y :: b) (by simp only [List.length_cons]; omega) ha' hb
      have low := inter_low n a (y :: b) (by simp only [List.length_cons]; omega) ha' hb
      refine ⟨⟨fun s hs => ?_, List.pairwise_append.2 ⟨hp1, h1.p, fun s hs t ht => ?_⟩⟩, fun N => ?_⟩
      · rcases List.mem_append.1 hs with hs | hs
        · exact (hone s hs).1
        · exact h1.v s hs
      · obtain ⟨⟨u, hu, hl⟩, _⟩ := low t ht
        have := ga u hu
        have := (hone s hs).2.1
        unfold gapR at *
        omega
      · simp only [mem_append, oneC_mem hx hy, h2, mem_cons]
        constructor
        · rintro (⟨h3, h4⟩ | ⟨h3, h4⟩)
          · exact ⟨.inl h3, .inl h4⟩
          · exact ⟨.inr h3, h4⟩
        · rintro ⟨h3 | h3, h4⟩
          · rcases h4 with h4 | ⟨v, hv, h5⟩
            · exact .inl ⟨h3, h4⟩
            · have := gb v hv
              unfold gapR at this
              omega
          · exact .inr ⟨h3, h4⟩
    · rw [if_neg hf]
      have hlt : ¬ x.hi < y.hi := fun q => hf ((fstC_iff hx hy).2 q)
      obtain ⟨h1, h2⟩ := inter_spec' n (x :: a) b (by simp only [List.length_cons]; omega) ha hb'
      have low := inter_low n (x :: a) b (by simp only [List.length_cons]; omega) ha hb'
      refine ⟨⟨fun s hs => ?_, List.pairwise_append.2 ⟨hp1, h1.p, fun s hs t ht => ?_⟩⟩, fun N => ?_⟩
      · rcases List.mem_append.1 hs with hs | hs
        · exact (hone s hs).1
        · exact h1.v s hs
      · obtain ⟨_, ⟨v, hv, hl⟩, _⟩ := low t ht
        have := gb v hv
        have := (hone s hs).2.2.1
        unfold gapR at *
        omega
      · simp only [mem_append, oneC_mem hx hy, h2, mem_cons]
        constructor
        · rintro (⟨h3, h4⟩ | ⟨h3, h4⟩)
          · exact ⟨.inl h3, .inl h4⟩
          · exact ⟨h3, .inr h4⟩
        · rintro ⟨h3, h4 | h4⟩
          · rcases h3 with h3 | ⟨u, hu, h5⟩
            · exact .inl ⟨h3, h4⟩
            · have := ga u hu
              unfold gapR at this
              omega
          · exact .inr ⟨h3, h4⟩
theorem inter_done {f : Int} (hf : f = 4 ∨ f = 6) {a b : List SP} (ha : Nrm f a) (hb : Nrm f b) : interS a b = doneL 1 f a b := by
  obtain ⟨h1, h2⟩ := inter_spec' _ a b (Nat.le_refl _) ha hb
  obtain ⟨g1, g2⟩ := doneL_spec (d := 1) hf ha.v hb.v
  refine nrm_eq h1 g1 fun N => ?_
  rw [h2 N, g2 N]
  exact Iff.rfl
end Go.Proofs.Ytnhgdkcddjbpgaa.AL
namespace Go.Proofs.Ytnhgdkcddjbpgaa.AL
open Go
/-! The library's sort, on a row of the call's own. -/
open Go.Sort
def encS (s : SP) : List Value := [.int .u64 s.h, .int .u64 s.l, .int .u64 s.h', .int .u64 s.l']
instance : Inhabited SP := ⟨⟨0, 0, 0, 0⟩⟩
theorem RL_encS {E : Env} : ∀ (l : List SP) {vs : List Value}, RL E (sRows l).flatten vs → vs = (l.map encS).flatten
  | [], vs, h => by simpa [sRows, RL] using h
  | s :: l, vs, h => by
    simp only [sRows, List.map_cons, List.flatten_cons, SP.row, List.cons_append, List.nil_append, RL, R] at h
    obtain ⟨_, _, rfl, rfl, _, _, rfl, rfl, _, _, rfl, rfl, _, _, rfl, rfl, h⟩ := h
    rw [RL_encS l h]
    rfl
theorem encS_RL {E : Env} : ∀ (l : List SP), RL E (sRows l).flatten (l.map encS).flatten
  | [] => by simp [sRows, RL]
  | s :: l => by
    have := encS_RL (E := E) l
    simp only [sRows, List.map_cons, List.flatten_cons, SP.row, List.cons_append, List.nil_append, RL, R, encS]
    exact ⟨_, _, rfl, rfl, _, _, rfl, rfl, _, _, rfl, rfl, _, _, rfl, rfl, this⟩
theorem flatK_list {α : Type} [Inhabited α] (enc : α → List Value) (k : Nat) (hk : ∀ x, (enc x).length = k) (h0 : 0 < k) : ∀ l : List α, (flatK enc k l.toArray).toList = (l.map enc).flatten := by
  intro l
  unfold flatK
  rw [Array.toList_map, Array.toList_range]
  simp only [List.size_toArray]
  induction l with
  | nil => simp
  | cons x l ih =>
    simp only [List.length_cons, List.map_cons, List.flatten_cons]
    rw [Nat.add_mul, Nat.one_mul, Nat.add_comm (l.length * k) k, List.range_add, List.map_append, ← ih]
    congr 1
    · refine List.ext_getElem (by simp [hk]) fun i h1 h2 => ?_
      have hi : i < k := by simpa using h1
      simp only [List.getElem_map, List.getElem_range]
      rw [Nat.div_eq_of_lt hi, Nat.mod_eq_of_lt hi]
      simp [hk, hi]
    · rw [List.map_map]
      refine List.map_congr_left fun i hi => ?_
      have hi : i < l.length * k := by simpa using hi
      have e1 : (k + i) / k = i / k + 1 := by rw [Nat.add_div_left _ h0]
      have e2 : (k + i) % k = i % k := by rw [Nat.add_mod_left]
      simp only [Function.comp, e1, e2]
      congr 1
      have hlt : i / k < l.length := Nat.div_lt_of_lt_mul (by rw [Nat.mul_comm]; exact hi)
      simp [hlt]
def SortC (ty : TypeId) (g : FuncId) (srt : List SP → List SP) : Ct := fun vs s K _ => ∃ b l, vs = [.own b, .fn g [] []] ∧ s.hp b = some (.sl 4 ty (sRows l)) ∧ l.length ≤ 1000000 ∧
  ∀ s' : St, s'.nx = s.nx → s'.hp = upd s.hp b (some (.sl 4 ty (sRows (srt l)))) → K (.tup []) s'
theorem lays_of_runs {P : Program} [Gl P] {g : Nat} {fn : Func} {c : Code} (hf : P.funcs[g]? = some fn) (hn : fn.name ≠ "runtime.NumGoroutine") (hb : fn.body = some c) {cf : SP → SP → Int}
    (hC : ∀ x y : SP, Runs P g [.agg x.row, .agg y.row] ⟨.int .i64 (cf x y), []⟩) {E : Env} (hG : GOK P E) (hO : ∀ k, E.O k → k < E.w.heap.size) {blk n : Nat} (hblk : E.O blk) : CmpLays P g #[] encS 4 cf blk 0 n E.w := by
  intro m os dk hdk x y
  obtain ⟨w1, hw1⟩ : ∃ w1, w1 = sortWorldK encS 4 E.w blk 0 m dk os := ⟨_, rfl⟩
  rw [← hw1]
  have hsize : E.w.heap.size ≤ w1.heap.size := by rw [hw1]; simp [sortWorldK, grow, putRowK, putRow, mapBlock, Sort.ahead]
  have hold : ∀ k, k < E.w.heap.size → k ≠ blk → w1.heap[k]? = E.w.heap[k]? := by
    intro k hk hne
    rw [hw1]
    unfold sortWorldK grow putRowK putRow mapBlock Sort.ahead
    simp only
    rw [Array.getElem?_append_left (by simpa using hk), Array.getElem?_modify, if_neg (Ne.symm hne)]
  have hm0 : E.le0 { w := w1, O := E.O, σ := E.σ, D := fun _ => False } := ⟨hsize, fun k hk hOk => ⟨hold k hk (fun e => hOk (e ▸ hblk)), hOk⟩⟩
  have h := hC x y { w := w1, O := E.O, σ := E.σ, D := fun _ => False } [.agg (encS x).toArray, .agg (encS y).toArray] (fun _ h => h) (fun k hk => Nat.lt_of_lt_of_le (hO k hk) hsize) (fun g => R.clean hm0 _ _ (Gl.clean g) (hG g))
    (by simp only [RL, R, SP.row, encS]; exact ⟨_, _, rfl, ⟨_, rfl, _, _, rfl, rfl, _, _, rfl, rfl, _, _, rfl, rfl, _, _, rfl, rfl, rfl⟩, _, _, rfl, ⟨_, rfl, _, _, rfl, rfl, _, _, rfl, rfl, _, _, rfl, rfl, _, _, rfl, rfl, rfl⟩, rfl⟩)
  unfold CalledX at h
  rw [run_enter hf hn hb] at h
  refine Calls.mono (show Calls P g _ w1 _ from h) ?_
  intro e w2 hp
  cases e with
  | returned v =>
    obtain ⟨E2, rfl, hq⟩ := hp
    have hv := hq.R
    simp only [R] at hv
    subst hv
    refine ⟨rfl, E2.w.drawn - w1.drawn, E2.w.heap.extract w1.heap.size E2.w.heap.size, ?_⟩
    have h1 := hq.ev.os
    have h2 := hq.ev.tape
    have h3 := hq.ev.output
    have h4 := hq.ev.drawn
    have h5 := hq.ev.size
    have h6 : E2.w.heap = w1.heap ++ E2.w.heap.extract w1.heap.size E2.w.heap.size := by
      refine Array.ext_getElem? fun k => ?_
      by_cases hk : k < w1.heap.size
      · rw [Array.getElem?_append_left hk, hq.ev.blk k hk]
      · rw [Array.getElem?_append_right (by omega), Array.getElem?_extract]
        split
        · congr 1; omega
        · rw [Array.getElem?_eq_none]; omega
    obtain ⟨⟨he, te, dr, o, ou⟩, _, _, _⟩ := E2
    simp only at h1 h2 h3 h4 h5 h6 ⊢
    unfold grow World.drewN
    simp only [World.mk.injEq]
    exact ⟨h6, h2, by omega, h1, h3⟩
  | panicked ch => exact hp.elim
  | outgrown => exact hp.elim
theorem sort_ok {P : Program} [Gl P] {f g ty : Nat} {fn : Func} {c : Code} (hf : P.funcs[f]? = some fn) (hn : fn.name ≠ "runtime.NumGoroutine") (hb : fn.body = some c) {srt : List SP → List SP} {cf : SP → SP → Int} {fg : Func} {cg : Code} (hfg : P.funcs[g]? = some fg) (hng : fg.name ≠ "runtime.NumGoroutine") (hbg0 : fg.body = some cg)
    (hC : ∀ x y : SP, Runs P g [.agg x.row, .agg y.row] ⟨.int .i64 (cf x y), []⟩)
    (hS : ∀ (blk cap : Nat) (l : List SP) (w : World), CmpLays P g #[] encS 4 cf blk 0 l.length w → HoldsK encS 4 w blk 0 l.toArray → blk < w.heap.size → l.length ≤ 1000000 → l ≠ [] →
      Calls P f #[.slice (some ⟨blk, 0, none⟩) l.length cap, .func (.func g) #[] #[]] w fun e w' => e = .returned (.tuple #[]) ∧ ∃ n os, w' = sortWorldK encS 4 w blk 0 n (srt l).toArray os)
    (hS0 : ∀ (p : Option Addr) (cap : Nat) (w : World), Calls P f #[.slice p 0 cap, .func (.func g) #[] #[]] w fun e w' => e = .returned (.tuple #[]) ∧ w' = w)
    (hlen : ∀ l, (srt l).length = l.length) {vs : List V} {s : St} {K X : V → St → Prop} (h : SortC ty g srt vs s K X) : CallW P f s vs K X := by
  obtain ⟨b, l, rfl, hbk, hl, hK⟩ := h
  intro F A E us hE hnx hargs
  simp only [RL, R] at hargs
  obtain ⟨v1, _, rfl, ⟨hD, rfl, _⟩, v2, _, rfl, ⟨u1, u2, rfl, rfl, rfl⟩, rfl⟩ := hargs
  unfold CallG CalledX
  rw [run_enter hf hn hb]
  show Calls P f _ E.w _
  obtain ⟨_, hB⟩ := hE.hp.blk b _ hbk
  have hB0 := hB
  by_cases hnil : l = []
  · have hσ : ∃ p cap, E.σ b = .slice p 0 cap := by
      subst hnil
      simp only [BRel] at hB
      rcases hB with ⟨vs, hown, _⟩ | ⟨_, _, ad, h⟩
      · rcases hown.2 with ⟨h1, h2⟩ | ⟨g', cap, cur, h1, _⟩
        · exact ⟨none, 0, h1⟩
        · exact ⟨_, cap, h1⟩
      · exact ⟨ad, 0, h⟩
    obtain ⟨p, cap, hσ⟩ := hσ
    rw [hσ]
    refine Calls.mono (hS0 p cap E.w) ?_
    rintro e w' ⟨rfl, rfl⟩
    have hsrt : srt l = l := by
      subst hnil
      exact List.eq_nil_of_length_eq_zero (by rw [hlen]; rfl)
    refine ⟨E, s, .tup [], rfl, ⟨fun _ h => h, fun _ _ => rfl, Nat.le_refl _, fun _ _ h => ⟨rfl, h⟩⟩, hE, hnx, by simp only [R]; exact ⟨[], rfl, by simp [RL]⟩, hK s rfl ?_, Ev.refl _ _⟩
    funext x
    unfold upd
    split
    · rename_i e; rw [e, hbk, hsrt]
    · rfl
  · have hpos : 0 < l.length := List.length_pos_iff.2 hnil
    simp only [BRel] at hB
    rcases hB with ⟨vs, hown, hR, h1, hsz, hun, hF⟩ | ⟨h0, _⟩
    case inr => exact absurd (by simpa [sRows] using h0) hnil
    rw [sRows_len] at hown
    rcases hown.2 with ⟨_, hn0⟩ | ⟨g', cap, cur, hσ, _, hh, hcap, hml, hcs, htk⟩
    · omega
    have hvs := RL_encS l hR
    have hfl := flatK_list encS 4 (fun _ => rfl) (by omega) l
    have hlt : g' < E.w.heap.size := (Array.getElem?_eq_some_iff.1 hh).1
    have hfsz : (flatK encS 4 l.toArray).size = l.length * 4 := by simp
    rw [hσ]
    refine Calls.mono (hS g' cap l E.w (lays_of_runs hfg hng hbg0 hC hE.gl hE.Oz (hF g' (by rw [hσ]; simp only [blkOf]; rw [if_neg (by omega)])).2) ?_ hlt hl hnil) ?_
    · intro j hj
      rw [hfsz] at hj
      have hj2 : j < cur.size := by rw [hcs]; have := Nat.mul_le_mul_right 4 hcap; omega
      constructor
      · simp only [World.cell?, hh, Nat.zero_add, Option.isSome_none, Bool.false_eq_true, if_false, id]
        have e1 : cur.toList[j]? = (cur.toList.take (l.length * 4))[j]? := by rw [List.getElem?_take, if_pos hj]
        have e2 : cur[j]? = cur.toList[j]? := by simp
        rw [e2, e1, htk, hvs, ← hfl]
        have this : j < (flatK encS 4 l.toArray).size := by rw [hfsz]; exact hj
        rw [Array.getElem?_toList, Array.getElem?_eq_getElem this, getElem!_pos _ j this]
      · simp [World.frozen?, hh]
    · rintro e w' ⟨rfl, n, os, hw'⟩
      obtain ⟨F', hF'⟩ : ∃ F', F' = flatK encS 4 (srt l).toArray := ⟨_, rfl⟩
      have hfl' := flatK_list encS 4 (fun _ => rfl) (by omega) (srt l)
      rw [← hF'] at hfl'
      have hF's : F'.size = l.length * 4 := by rw [hF']; simp [hlen]
      obtain ⟨w1, hw1⟩ : ∃ w1, w1 = putRowK encS 4 (Sort.ahead E.w n) g' 0 (srt l).toArray := ⟨_, rfl⟩
      have hw2 : w' = grow w1 os := by rw [hw', hw1]; rfl
      have hheap : ∀ k, w1.heap[k]? = if k = g' then some (.cells (Sort.putCells id 0 F' cur) ty (0, 0)) else E.w.heap[k]? := by
        intro k
        rw [hw1]
        unfold putRowK putRow mapBlock Sort.ahead
        rw [← hF']
        simp only [Array.getElem?_modify]
        by_cases e : k = g'
        · subst e
          rw [if_pos rfl, if_pos rfl, hh]
          rfl
        · rw [if_neg e, if_neg (Ne.symm e)]
      have hsize : w1.heap.size = E.w.heap.size := by rw [hw1]; simp [putRowK, putRow, mapBlock, Sort.ahead]
      have hdr : E.w.drawn ≤ w1.drawn := by rw [hw1]; exact Nat.le_add_right _ _
      have hos : w1.os = E.w.os := by rw [hw1]; rfl
      have htape : w1.tape = E.w.tape := by rw [hw1]; rfl
      have hout : w1.output = E.w.output := by rw [hw1]; rfl
      have hbg : blkOf (E.σ b) = some g' := by
        rw [hσ]
        simp only [blkOf]
        rw [if_neg (by omega)]
      have hFg := hF g' hbg
      have hpc : (Sort.putCells id 0 F' cur).size = cur.size := by simp [Sort.putCells]
      have hBn : BRel F { E with w := w1 } (E.σ b) (.sl 4 ty (sRows (srt l))) := by
        simp only [BRel]
        refine .inl ⟨((srt l).map encS).flatten, ⟨?_, .inr ⟨g', cap, Sort.putCells id 0 F' cur, by rw [sRows_len, hlen]; exact hσ, Nat.zero_le _, by rw [hheap, if_pos rfl], by rw [sRows_len, hlen]; exact hcap, hml, by rw [hpc]; exact hcs, ?_⟩⟩, encS_RL _, ?_, by omega, ?_, fun k hk => hF k hk⟩
        · rw [sRows_len, hlen, ← hfl']; simp [hF's]
        · rw [sRows_len, hlen, ← hfl']
          refine List.ext_getElem ?_ fun i h1 h2 => ?_
          · simp only [List.length_take, Array.length_toList, hpc, hcs, hF's]
            have := Nat.mul_le_mul_right 4 hcap
            omega
          · have hi : i < F'.size := by simpa using h2
            rw [List.getElem_take]
            simp [Sort.putCells, hi]
        · intro u hu
          obtain ⟨r, hr, hur⟩ := List.mem_flatten.1 hu
          obtain ⟨x, _, rfl⟩ := List.mem_map.1 hr
          simp only [encS, List.mem_cons, List.not_mem_nil, or_false] at hur
          rcases hur with rfl | rfl | rfl | rfl <;> rfl
        · intro r hr
          obtain ⟨x, _, rfl⟩ := List.mem_map.1 hr
          refine ⟨rfl, fun c hc => ?_⟩
          simp only [SP.row, List.mem_cons, List.not_mem_nil, or_false] at hc
          rcases hc with rfl | rfl | rfl | rfl <;> rfl
      obtain ⟨hH, hle, hev⟩ := hE.hp.write hbk hbg hsize (fun k hk => by rw [hheap, if_neg hk]) hos htape hout hdr hBn
      have hG : Grows F { E with w := w1 } { E with w := w' } := by
        have hold : ∀ k, k < w1.heap.size → w'.heap[k]? = w1.heap[k]? := fun k hk => by
          rw [hw2]
          simp only [grow]
          rw [Array.getElem?_append_left hk]
        have hsz2 : w1.heap.size ≤ w'.heap.size := by rw [hw2]; simp [grow]
        refine ⟨⟨fun _ h => h, fun _ _ => rfl, hsz2, fun k hk hO => ⟨hold k hk, hO⟩⟩, fun _ _ h => h, fun _ h => .inl h, fun _ h => h, hold, ⟨by rw [hw2]; rfl, by rw [hw2]; rfl, by rw [hw2]; rfl, hsz2, fun k hk => hold k ?_, by rw [hw2]; exact Nat.le_refl _⟩⟩
        show k < w1.heap.size
        rw [hsize]
        exact hE.Fz k hk
      have hle2 : E.le { E with w := w' } := Env.le.trans hle hG.le
      have hH2 : HRel F { E with w := w' } (upd s.hp b (some (.sl 4 ty (sRows (srt l))))) := by
        refine ⟨fun y z hz => ?_, fun y y' z z' k hz hz' hk hk' => hH.sep y y' z z' k hz hz' hk hk'⟩
        obtain ⟨q1, q2⟩ := hH.blk y z hz
        exact ⟨q1, q2.grow hG⟩
      refine ⟨{ E with w := w' }, { s with hp := upd s.hp b (some (.sl 4 ty (sRows (srt l)))) }, .tup [], rfl, hle2, ⟨hH2, fun k => R.mono hle2 _ _ (hE.gl k), hE.AO, fun k hk => Nat.lt_of_lt_of_le (hE.Fz k hk) hle2.size, hE.OA, fun k hk => Nat.lt_of_lt_of_le (hE.Oz k hk) hle2.size⟩, hnx, by simp only [R]; exact ⟨[], rfl, by simp [RL]⟩, hK _ rfl rfl, hev.trans hG.ev⟩
end Go.Proofs.Ytnhgdkcddjbpgaa.AL
