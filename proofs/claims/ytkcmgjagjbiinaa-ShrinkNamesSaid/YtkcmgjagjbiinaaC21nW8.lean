import Derived.Test.YtkcmgjagjbiinaaC21nW7
import Derived.Test.YtkcmgjagjbiinaaC21nAL4
/- What single functions compute: a part of the proof; no conditions. -/
set_option linter.unusedVariables false
set_option linter.unusedSimpArgs false
set_option linter.unusedSectionVars false
set_option maxRecDepth 100000
namespace Go.Proofs.Ytkcmgjagjbiinaa.AL
open Go
/-! The union: sorted, then run by run. -/
def cfS (x y : SP) : Int := if cmpA x.h x.l y.h y.l = 0 then cmpA x.h' x.l' y.h' y.l' else cmpA x.h x.l y.h y.l
def ltS (x y : SP) : Prop := x.h < y.h ∨ (x.h = y.h ∧ (x.l < y.l ∨ (x.l = y.l ∧ (x.h' < y.h' ∨ (x.h' = y.h' ∧ x.l' < y.l')))))
theorem cfS_lt (x y : SP) : cfS x y < 0 ↔ ltS x y := by
  unfold cfS ltS cmpA
  constructor
  · intro h
    (repeat' split at h) <;> omega
  · intro h
    (repeat' split) <;> omega
def leS (x y : SP) : Bool := !decide (cfS y x < 0)
theorem leS_iff (x y : SP) : leS x y = true ↔ ¬ ltS y x := by
  unfold leS
  rw [← cfS_lt]
  simp
theorem leS_trans (a b c : SP) (h1 : leS a b = true) (h2 : leS b c = true) : leS a c = true := by
  rw [leS_iff] at *
  unfold ltS at *
  omega
theorem leS_total (a b : SP) : (leS a b || leS b a) = true := by
  rw [Bool.or_eq_true, leS_iff, leS_iff]
  unfold ltS
  omega
theorem cfS_tot (x y : SP) (h1 : decide (cfS x y < 0) = false) (h2 : decide (cfS y x < 0) = false) : x = y := by
  have e1 : ¬ ltS x y := by rw [← cfS_lt]; simpa using h1
  have e2 : ¬ ltS y x := by rw [← cfS_lt]; simpa using h2
  unfold ltS at *
  cases x; cases y
  simp only at *
  simp only [SP.mk.injEq]
  omega
def sortS (l : List SP) : List SP := l.mergeSort leS
theorem sortS_len (l : List SP) : (sortS l).length = l.length := List.length_mergeSort l
theorem sortS_mem {l : List SP} {s : SP} : s ∈ sortS l ↔ s ∈ l := (List.mergeSort_perm l leS).mem_iff
theorem sortS_pw (l : List SP) : (sortS l).Pairwise fun x y => leS x y = true := List.pairwise_mergeSort leS_trans leS_total l
def lastS (out : List SP) : SP := out.getD (out.length - 1) SP0
def ustep (out : List SP) (s : SP) : List SP :=
  if 0 < out.length ∧ aftB s.h s.l (lastS out).h' (lastS out).l' = false then (if cmpA (lastS out).h' (lastS out).l' s.h' s.l' < 0 then setTo out (s.h', s.l') else out) else out ++ [s]
def unionS (l : List SP) : List SP := (sortS l).foldl ustep []
theorem setTo_len (out : List SP) (p : Int × Int) : (setTo out p).length = out.length := by simp [setTo]
theorem ustep_len (out : List SP) (s : SP) : (ustep out s).length ≤ out.length + 1 := by
  unfold ustep
  split
  · split
    · rw [setTo_len]; omega
    · omega
  · simp
theorem ufold_len : ∀ (l out : List SP), (l.foldl ustep out).length ≤ out.length + l.length
  | [], out => by simp
  | s :: l, out => by
    have h1 := ustep_len out s
    have h2 := ufold_len l (ustep out s)
    simp only [List.foldl_cons, List.length_cons]
    omega
theorem ufold_take {l : List SP} {k : Nat} (h : k < l.length) : (l.take (k + 1)).foldl ustep [] = ustep ((l.take k).foldl ustep []) l[k] := by
  rw [take_snoc' l k h, List.foldl_append]; rfl
theorem ufold_tlen {l : List SP} (k : Nat) (h : k ≤ l.length) : ((l.take k).foldl ustep []).length ≤ k := by
  have := ufold_len (l.take k) []
  simp at this
  omega
theorem leS_lo {f : Int} {x y : SP} (hx : Vf f x) (hy : Vf f y) (h : leS x y = true) : x.lo ≤ y.lo := by
  rw [leS_iff] at h
  obtain ⟨a0, a1, a2, a3⟩ := hx.a
  obtain ⟨b0, b1, b2, b3⟩ := hy.a
  unfold ltS at h
  unfold SP.lo numA
  simp only
  omega
structure UI (f : Int) (d out : List SP) : Prop where
  v : ∀ t ∈ out, Vf f t
  p : out.Pairwise gapR
  m : ∀ N, mem out N ↔ mem d N
  lo : ∀ t ∈ out, ∃ x ∈ d, t.lo = x.lo
theorem UI_step {f : Int} {d out : List SP} {s : SP} (hs : Vf f s) (hd : ∀ x ∈ d, x.lo ≤ s.lo) (h : UI f d out) : UI f (d ++ [s]) (ustep out s) := by
  obtain ⟨hv, hp, hm, hlo⟩ := h
  have hsl := hs.le
  have app : (∀ t ∈ out, gapR t s) → UI f (d ++ [s]) (out ++ [s]) := by
    intro hg
    refine ⟨fun t ht => ?_, ?_, fun N => by rw [mem_append, mem_append, hm N], fun t ht => ?_⟩
    · rcases List.mem_append.1 ht with ht | ht
      · exact hv t ht
      · simp only [List.mem_singleton] at ht; subst ht; exact hs
    · refine List.pairwise_append.2 ⟨hp, List.pairwise_singleton _ _, fun u hu w hw => ?_⟩
      simp only [List.mem_singleton] at hw; subst hw; exact hg u hu
    · rcases List.mem_append.1 ht with ht | ht
      · obtain ⟨x, hx, e⟩ := hlo t ht
        exact ⟨x, by simp [hx], e⟩
      · simp only [List.mem_singleton] at ht; subst ht; exact ⟨_, by simp, rfl⟩
  rcases List.eq_nil_or_concat out with rfl | ⟨o, t, rfl⟩
  · unfold ustep
    rw [if_neg (by simp)]
    exact app (by simp)
  · rw [List.concat_eq_append] at *
    have hl : lastS (o ++ [t]) = t := by simp [lastS]
    have hvt := hv t (by simp)
    have htl := hvt.le
    obtain ⟨p1, p2, p3⟩ := List.pairwise_append.1 hp
    have hts : t.lo ≤ s.lo := by
      obtain ⟨x, hx, e⟩ := hlo t (by simp)
      rw [e]; exact hd x hx
    unfold ustep
    rw [hl]
    cases ha : aftB s.h s.l t.h' t.l'
    · have hna : ¬ t.hi + 1 < s.lo := by
        intro hc
        have := (aftB_iff hs.a hvt.b).2 hc
        rw [ha] at this; cases this
      rw [if_pos ⟨by simp, rfl⟩]
      by_cases hc : cmpA t.h' t.l' s.h' s.l' < 0
      · rw [if_pos hc]
        have hlt := (cmpA_lt hvt.b hs.b).1 hc
        have hlt' : t.hi < s.hi := hlt
        have es : setTo (o ++ [t]) (s.h', s.l') = o ++ [⟨t.h, t.l, s.h', s.l'⟩] := by
          unfold setTo
          simp
        rw [es]
        have e1 : SP.lo ⟨t.h, t.l, s.h', s.l'⟩ = t.lo := rfl
        have e2 : SP.hi ⟨t.h, t.l, s.h', s.l'⟩ = s.hi := rfl
        have hvn : Vf f ⟨t.h, t.l, s.h', s.l'⟩ := Vf.mk' hs.f46 hvt.a hs.b (by rw [e1, e2]; omega) (by rw [e2]; exact hs.lt)
        generalize (⟨t.h, t.l, s.h', s.l'⟩ : SP) = t' at *
        refine ⟨fun u hu => ?_, ?_, fun N => ?_, fun u hu => ?_⟩
        · rcases List.mem_append.1 hu with hu | hu
          · exact hv u (by simp [hu])
          · simp only [List.mem_singleton] at hu; subst hu; exact hvn
        · refine List.pairwise_append.2 ⟨p1, List.pairwise_singleton _ _, fun u hu w hw => ?_⟩
          simp only [List.mem_singleton] at hw; subst hw
          have := p3 u hu t (by simp)
          unfold gapR at *
          omega
        · rw [mem_append, mem_one, e1, e2, mem_append, mem_one, ← hm N, mem_append, mem_one]
          constructor
          · rintro (a | a)
            · exact .inl (.inl a)
            · rcases Int.lt_or_le t.hi N with g | g
              · exact .inr ⟨by omega, a.2⟩
              · exact .inl (.inr ⟨a.1, g⟩)
          · rintro ((a | a) | a)
            · exact .inl a
            · exact .inr ⟨a.1, by omega⟩
            · exact .inr ⟨by omega, a.2⟩
        · rcases List.mem_append.1 hu with hu | hu
          · obtain ⟨x, hx, e⟩ := hlo u (by simp [hu])
            exact ⟨x, by simp [hx], e⟩
          · simp only [List.mem_singleton] at hu; subst hu
            obtain ⟨x, hx, e⟩ := hlo t (by simp)
            exact ⟨x, by simp [hx], by rw [e1, e]⟩
      · rw [if_neg hc]
        have hge : s.hi ≤ t.hi := by
          rcases Int.lt_or_le t.hi s.hi with g | g
          · exact absurd ((cmpA_lt hvt.b hs.b).2 g) hc
          · exact g
        refine ⟨hv, hp, fun N => ?_, fun u hu => ?_⟩
        · rw [mem_append (l := d), mem_one, ← hm N]
          constructor
          · exact .inl
          · rintro (a | a)
            · exact a
            · exact mem_append.2 (.inr (mem_one.2 ⟨by omega, by omega⟩))
        · obtain ⟨x, hx, e⟩ := hlo u hu
          exact ⟨x, by simp [hx], e⟩
    · rw [if_neg (by simp)]
      have hg := (aftB_iff hs.a hvt.b).1 ha
      have hg' : t.hi + 1 < s.lo := hg
      refine app fun u hu => ?_
      rcases List.mem_append.1 hu with hu | hu
      · have := p3 u hu t (by simp)
        unfold gapR at *
        omega
      · simp only [List.mem_singleton] at hu; subst hu; exact hg'
theorem union_spec {f : Int} {l : List SP} (hl : ∀ s ∈ l, Vf f s) : Nrm f (unionS l) ∧ ∀ N, mem (unionS l) N ↔ mem l N := by
  have hv : ∀ s ∈ sortS l, Vf f s := fun s hs => hl s (sortS_mem.1 hs)
  have key : ∀ k, k ≤ (sortS l).length → UI f ((sortS l).take k) (((sortS l).take k).foldl ustep []) := by
    intro k
    induction k with
    | zero =>
      intro _
      exact ⟨fun t ht => (by cases ht), List.Pairwise.nil, fun N => Iff.rfl, fun t ht => (by cases ht)⟩
    | succ k ih =>
      intro hk
      have hk' : k < (sortS l).length := hk
      rw [ufold_take hk', take_snoc' _ k hk']
      refine UI_step (hv _ (List.getElem_mem hk')) (fun x hx => ?_) (ih (by omega))
      obtain ⟨i, hi, rfl⟩ := List.mem_take_iff_getElem.1 hx
      have := List.pairwise_iff_getElem.1 (sortS_pw l) i k (by omega) hk' (by omega)
      exact leS_lo (hv _ (List.getElem_mem _)) (hv _ (List.getElem_mem _)) this
  have := key _ (Nat.le_refl _)
  rw [List.take_length] at this
  refine ⟨⟨this.v, this.p⟩, fun N => ?_⟩
  rw [show unionS l = (sortS l).foldl ustep [] from rfl, this.m N]
  exact ⟨fun ⟨s, hs, h⟩ => ⟨s, sortS_mem.1 hs, h⟩, fun ⟨s, hs, h⟩ => ⟨s, sortS_mem.2 hs, h⟩⟩
/-- The union of spans is the reference's. -/
theorem union_done {f : Int} (hf : f = 4 ∨ f = 6) {a b : List SP} (ha : ∀ s ∈ a, Vf f s) (hb : ∀ s ∈ b, Vf f s) : unionS (a ++ b) = doneL 0 f a b := by
  obtain ⟨h1, h2⟩ := union_spec (l := a ++ b) (fun s hs => (List.mem_append.1 hs).elim (ha s) (hb s))
  obtain ⟨g1, g2⟩ := doneL_spec (d := 0) hf ha hb
  refine nrm_eq h1 g1 fun N => ?_
  rw [h2 N, g2 N, mem_append]
  exact Iff.rfl
end Go.Proofs.Ytkcmgjagjbiinaa.AL
namespace Go.Proofs.Ytkcmgjagjbiinaa.AL
open Go
/-! The intersection: two lists, side by side. -/
def clipS (x y : SP) : SP :=
  ⟨if 0 < cmpA y.h y.l x.h x.l then y.h else x.h, if 0 < cmpA y.h y.l x.h x.l then y.l else x.l, if cmpA y.h' y.l' x.h' x.l' < 0 then y.h' else x.h', if cmpA y.h' y.l' x.h' x.l' < 0 then y.l' else x.l'⟩
def isC (x y : SP) : Bool := decide (cmpA (clipS x y).h (clipS x y).l (clipS x y).h' (clipS x y).l' ≤ 0)
def oneC (x y : SP) : List SP := if isC x y = true then [clipS x y] else []
def fstC (x y : SP) : Bool := decide (cmpA x.h' x.l' y.h' y.l' < 0)
def interF : Nat → List SP → List SP → List SP
  | 0, _, _ => []
  | n + 1, x :: a, y :: b => oneC x y ++ (if fstC x y = true then interF n a (y :: b) else interF n (x :: a) b)
  | _ + 1, _, _ => []
def interS (a b : List SP) : List SP := interF (a.length + b.length) a b
theorem interS_nl (b : List SP) : interS [] b = [] := by
  unfold interS
  cases h : ([] : List SP).length + b.length <;> rfl
theorem interS_nr (a : List SP) : interS a [] = [] := by
  unfold interS
  cases h : a.length + ([] : List SP).length with
  | zero => rfl
  | succ n => cases a <;> rfl
theorem interS_cons (x y : SP) (a b : List SP) : interS (x :: a) (y :: b) = oneC x y ++ (if fstC x y = true then interS a (y :: b) else interS (x :: a) b) := by
  unfold interS
  rw [show (x :: a).length + (y :: b).length = (a.length + (y :: b).length) + 1 by simp only [List.length_cons]; omega, interF]
  congr 1
  split
  · rfl
  · congr 1
    simp only [List.length_cons]
    omega
section
variable {f : Int} {x y : SP}
theorem clip_lo (hx : Vf f x) (hy : Vf f y) : (clipS x y).lo = if x.lo < y.lo then y.lo else x.lo := by
  have h1 := cmpA_lt hx.a hy.a
  have h2 := cmpA_lt hy.a hx.a
  have e : (0 < cmpA y.h y.l x.h x.l) ↔ x.lo < y.lo := by
    unfold SP.lo
    rw [← h1]
    unfold cmpA
    constructor
    · intro h
      (repeat' split at h) <;> (repeat' split) <;> omega
    · intro h
      (repeat' split at h) <;> (repeat' split) <;> omega
  unfold clipS SP.lo
  by_cases h : 0 < cmpA y.h y.l x.h x.l
  · have h' := e.1 h
    unfold SP.lo at h'
    simp only [if_pos h]
    rw [if_pos h']
  · have h' : ¬ numA (x.h, x.l) < numA (y.h, y.l) := fun q => h (e.2 q)
    simp only [if_neg h]
    rw [if_neg h']
theorem clip_hi (hx : Vf f x) (hy : Vf f y) : (clipS x y).hi = if y.hi < x.hi then y.hi else x.hi := by
  have e := cmpA_lt hy.b hx.b
  unfold clipS SP.hi
  by_cases h : cmpA y.h' y.l' x.h' x.l' < 0
  · simp only [if_pos h]
    rw [if_pos (e.1 h)]
  · simp only [if_neg h]
    rw [if_neg (fun q => h (e.2 q))]
theorem clip_a (hx : Vf f x) (hy : Vf f y) : inA (clipS x y).h (clipS x y).l := by
  unfold clipS
  by_cases h : 0 < cmpA y.h y.l x.h x.l
  · simp only [if_pos h]; exact hy.a
  · simp only [if_neg h]; exact hx.a
theorem clip_b (hx : Vf f x) (hy : Vf f y) : inA (clipS x y).h' (clipS x y).l' := by
  unfold clipS
  by_cases h : cmpA y.h' y.l' x.h' x.l' < 0
  · simp only [if_pos h]; exact hy.b
  · simp only [if_neg h]; exact hx.b
theorem isC_iff (hx : Vf f x) (hy : Vf f y) : isC x y = true ↔ (clipS x y).lo ≤ (clipS x y).hi := by
  have h := cmpA_lt (clip_b hx hy) (clip_a hx hy)
  unfold isC
  rw [decide_eq_true_eq]
  have e : (cmpA (clipS x y).h (clipS x y).l (clipS x y).h' (clipS x y).l' ≤ 0) ↔ ¬ cmpA (clipS x y).h' (clipS x y).l' (clipS x y).h (clipS x y).l < 0 := by
    generalize clipS x y = c
    unfold cmpA
    constructor
    · intro h
      (repeat' split at h) <;> (repeat' split) <;> omega
    · intro h
      (repeat' split at h) <;> (repeat' split) <;> omega
  rw [e, h]
  unfold SP.lo SP.hi
  omega
theorem fstC_iff (hx : Vf f x) (hy : Vf f y) : fstC x y = true ↔ x.hi < y.hi := by
  unfold fstC
  rw [decide_eq_true_eq, cmpA_lt hx.b hy.b]
  exact Iff.rfl
theorem oneC_spec (hx : Vf f x) (hy : Vf f y) : ∀ t ∈ oneC x y, Vf f t ∧ t.hi ≤ x.hi ∧ t.hi ≤ y.hi ∧ x.lo ≤ t.lo ∧ y.lo ≤ t.lo := by
  intro t ht
  unfold oneC at ht
  split at ht
  · rename_i hc
    simp only [List.mem_singleton] at ht
    subst ht
    have h1 := clip_lo hx hy
    have h2 := clip_hi hx hy
    have h3 := (isC_iff hx hy).1 hc
    have := hx.lt
    have := hy.lt
    refine ⟨Vf.mk' hx.f46 (clip_a hx hy) (clip_b hx hy) h3 ?_, ?_, ?_, ?_, ?_⟩
    · rw [h2]; split <;> omega
    · rw [h2]; split <;> omega
    · rw [h2]; split <;> omega
    · rw [h1]; split <;> omega
    · rw [h1]; split <;> omega
  · cases ht
theorem oneC_mem (hx : Vf f x) (hy : Vf f y) (N : Int) : mem (oneC x y) N ↔ (x.lo ≤ N ∧ N ≤ x.hi) ∧ (y.lo ≤ N ∧ N ≤ y.hi) := by
  have h1 := clip_lo hx hy
  have h2 := clip_hi hx hy
  unfold oneC
  by_cases hc : isC x y = true
  · rw [if_pos hc, mem_one, h1, h2]
    constructor
    · intro h
      (repeat' split at h) <;> omega
    · intro h
      constructor <;> split <;> omega
  · rw [if_neg hc]
    have h3 := fun q => hc ((isC_iff hx hy).2 q)
    rw [h1, h2] at h3
    refine ⟨fun h => absurd h mem_nil, fun h => absurd ?_ h3⟩
    split <;> split <;> omega
end
theorem inter_low {f : Int} : ∀ (n : Nat) (a b : List SP), a.length + b.length ≤ n → Nrm f a → Nrm f b → ∀ t ∈ interS a b, (∃ u ∈ a, u.lo ≤ t.lo) ∧ (∃ v ∈ b, v.lo ≤ t.lo) ∧ Vf f t
  | _, [], b, _, _, _, t, ht => by rw [interS_nl] at ht; cases ht
  | _, x :: a, [], _, _, _, t, ht => by rw [interS_nr] at ht; cases ht
  | 0, x :: a, y :: b, hn, _, _, t, ht => by simp at hn
  | n + 1, x :: a, y :: b, hn, ha, hb, t, ht => by
    have hx := ha.v x (by simp)
    have hy := hb.v y (by simp)
    have ha' : Nrm f a := ⟨fun s hs => ha.v s (by simp [hs]), (List.pairwise_cons.1 ha.p).2⟩
    have hb' : Nrm f b := ⟨fun s hs => hb.v s (by simp [hs]), (List.pairwise_cons.1 hb.p).2⟩
    simp only [List.length_cons] at hn
    rw [interS_cons] at ht
    rcases List.mem_append.1 ht with ht | ht
    · obtain ⟨h1, _, _, h4, h5⟩ := oneC_spec hx hy t ht
      exact ⟨⟨x, by simp, h4⟩, ⟨y, by simp, h5⟩, h1⟩
    · split at ht
      · obtain ⟨⟨u, hu, h1⟩, ⟨v, hv, h2⟩, h3⟩ := inter_low n a (y :: b) (by simp only [List.length_cons]; omega) ha' hb t ht
        exact ⟨⟨u, by simp [hu], h1⟩, ⟨v, hv, h2⟩, h3⟩
      · obtain ⟨⟨u, hu, h1⟩, ⟨v, hv, h2⟩, h3⟩ := inter_low n (x :: a) b (by simp only [List.length_cons]; omega) ha hb' t ht
        exact ⟨⟨u, hu, h1⟩, ⟨v, by simp [hv], h2⟩, h3⟩
theorem inter_spec' {f : Int} : ∀ (n : Nat) (a b : List SP), a.length + b.length ≤ n → Nrm f a → Nrm f b → Nrm f (interS a b) ∧ ∀ N, mem (interS a b) N ↔ mem a N ∧ mem b N
  | _, [], b, _, _, _ => by rw [interS_nl]; exact ⟨⟨fun s hs => (by cases hs), List.Pairwise.nil⟩, fun N => ⟨fun h => absurd h mem_nil, fun h => absurd h.1 mem_nil⟩⟩
  | _, x :: a, [], _, _, _ => by rw [interS_nr]; exact ⟨⟨fun s hs => (by cases hs), List.Pairwise.nil⟩, fun N => ⟨fun h => absurd h mem_nil, fun h => absurd h.2 mem_nil⟩⟩
  | 0, x :: a, y :: b, hn, _, _ => by simp at hn
  | n + 1, x :: a, y :: b, hn, ha, hb => by
    have hx := ha.v x (by simp)
    have hy := hb.v y (by simp)
    have ha' : Nrm f a := ⟨fun s hs => ha.v s (by simp [hs]), (List.pairwise_cons.1 ha.p).2⟩
    have hb' : Nrm f b := ⟨fun s hs => hb.v s (by simp [hs]), (List.pairwise_cons.1 hb.p).2⟩
    have ga := (List.pairwise_cons.1 ha.p).1
    have gb := (List.pairwise_cons.1 hb.p).1
    have hone := oneC_spec hx hy
    have hp1 : (oneC x y).Pairwise gapR := by unfold oneC; split <;> simp
    simp only [List.length_cons] at hn
    rw [interS_cons]
    by_cases hf : fstC x y = true
    · rw [if_pos hf]
      have hlt := (fstC_iff hx hy).1 hf
      obtain ⟨h1, h2⟩ := inter_spec' n a (y :: b) (by simp only [List.length_cons]; omega) ha' hb
      have low := inter_low n a (y :: b) (by simp only [List.length_cons]; omega) ha' hb
      refine ⟨⟨fun s hs => ?_, List.pairwise_append.2 ⟨hp1, h1.p, fun s hs t ht => ?_⟩⟩, fun N => ?_⟩
      · rcases List.mem_append.1 hs with hs | hs
        · exact (hone s hs).1
        · exact h1.v s hs
      · obtain ⟨⟨u, hu, hl⟩, _⟩ := low t ht
        have := ga u hu
        have := (hone s hs).2.1
        unfold gapR at *
        omega
      · simp only [mem_append, oneC_mem hx hy, h2, mem_cons]
        constructor
        · rintro (⟨h3, h4⟩ | ⟨h3, h4⟩)
          · exact ⟨.inl h3, .inl h4⟩
          · exact ⟨.inr h3, h4⟩
        · rintro ⟨h3 | h3, h4⟩
          · rcases h4 with h4 | ⟨v, hv, h5⟩
            · exact .inl ⟨h3, h4⟩
            · have := gb v hv
              unfold gapR at this
              omega
          · exact .inr ⟨h3, h4⟩
    · rw [if_neg hf]
      have hlt : ¬ x.hi < y.hi := fun q => hf ((fstC_iff hx hy).2 q)
      obtain ⟨h1, h2⟩ := inter_spec' n (x :: a) b (by simp only [List.length_cons]; omega) ha hb'
      have low := inter_low n (x :: a) b (by simp only [List.length_cons]; omega) ha hb'
      refine ⟨⟨fun s hs => ?_, List.pairwise_append.2 ⟨hp1, h1.p, fun s hs t ht => ?_⟩⟩, fun N => ?_⟩
      · rcases List.mem_append.1 hs with hs | hs
        · exact (hone s hs).1
        · exact h1.v s hs
      · obtain ⟨_, ⟨v, hv, hl⟩, _⟩ := low t ht
        have := gb v hv
        have := (hone s hs).2.2.1
        unfold gapR at *
        omega
      · simp only [mem_append, oneC_mem hx hy, h2, mem_cons]
        constructor
        · rintro (⟨h3, h4⟩ | ⟨h3, h4⟩)
          · exact ⟨.inl h3, .inl h4⟩
          · exact ⟨h3, .inr h4⟩
        · rintro ⟨h3, h4 | h4⟩
          · rcases h3 with h3 | ⟨u, hu, h5⟩
            · exact .inl ⟨h3, h4⟩
            · have := ga u hu
              unfold gapR at this
              omega
          · exact .inr ⟨h3, h4⟩
theorem inter_done {f : Int} (hf : f = 4 ∨ f = 6) {a b : List SP} (ha : Nrm f a) (hb : Nrm f b) : interS a b = doneL 1 f a b := by
  obtain ⟨h1, h2⟩ := inter_spec' _ a b (Nat.le_refl _) ha hb
  obtain ⟨g1, g2⟩ := doneL_spec (d := 1) hf ha.v hb.v
  refine nrm_eq h1 g1 fun N => ?_
  rw [h2 N, g2 N]
  exact Iff.rfl
end Go.Proofs.Ytkcmgjagjbiinaa.AL
namespace Go.Proofs.Ytkcmgjagjbiinaa.AL
open Go
/-- Byte strings in order. -/
def bls (a b : ByteArray) : Bool := Op.bytesLess a.toList b.toList
theorem bls_irr' : ∀ x : List UInt8, Op.bytesLess x x = false
  | [] => by simp [Op.bytesLess]
  | a :: x => by simp [Op.bytesLess, bls_irr' x]
theorem bls_trans' : ∀ x y z : List UInt8, Op.bytesLess x y = true → Op.bytesLess y z = true → Op.bytesLess x z = true
  | x, [], z, h, _ => by cases x <;> simp [Op.bytesLess] at h
  | x, b :: y, [], _, h => by simp [Op.bytesLess] at h
  | [], b :: y, c :: z, _, _ => by simp [Op.bytesLess]
  | a :: x, b :: y, c :: z, h1, h2 => by
    simp only [Op.bytesLess, UInt8.lt_iff_toNat_lt, ← UInt8.toNat_inj, beq_iff_eq, Bool.or_eq_true, Bool.and_eq_true, decide_eq_true_eq] at h1 h2 ⊢
    have ih := bls_trans' x y z
    grind
theorem bls_tri' : ∀ x y : List UInt8, (!Op.bytesLess x y) = (Op.bytesLess y x || decide (y = x))
  | [], [] => by simp [Op.bytesLess]
  | [], b :: y => by simp [Op.bytesLess]
  | a :: x, [] => by simp [Op.bytesLess]
  | a :: x, b :: y => by
    have ih := bls_tri' x y
    have hab : a = b ↔ a.toNat = b.toNat := UInt8.toNat_inj.symm
    by_cases e : a = b
    · subst e; simp [Op.bytesLess, ih]
    · have e2 : ¬ b = a := fun h => e h.symm
      have h3 : a.toNat ≠ b.toNat := fun h => e (hab.2 h)
      rcases Nat.lt_or_gt_of_ne h3 with h | h
      · have h4 : ¬ b.toNat < a.toNat := by omega
        simp [Op.bytesLess, e, e2, UInt8.lt_iff_toNat_lt, h, h4]
      · have h4 : ¬ a.toNat < b.toNat := by omega
        simp [Op.bytesLess, e, e2, UInt8.lt_iff_toNat_lt, h, h4]
theorem bls_irr (a : ByteArray) : bls a a = false := bls_irr' _
theorem bls_trans {a b c : ByteArray} (h1 : bls a b = true) (h2 : bls b c = true) : bls a c = true := bls_trans' _ _ _ h1 h2
theorem bls_ne {a b : ByteArray} (h : bls a b = true) : a ≠ b := by rintro rfl; rw [bls_irr] at h; cases h
theorem bytes_ext {a b : ByteArray} (h : a.toList = b.toList) : a = b := by
  rw [ByteArray.toList_eq, ByteArray.toList_eq] at h
  cases a; cases b
  simp at h
  simp [h]
theorem bytes_dec (a b : ByteArray) : decide (a.toList = b.toList) = decide (a = b) := by
  rw [decide_eq_decide]
  exact ⟨bytes_ext, fun h => by rw [h]⟩
theorem bls_tri (a b : ByteArray) : (!bls a b) = (bls b a || decide (b = a)) := by
  unfold bls
  rw [bls_tri', bytes_dec]
/-- A holder. -/
structure HD where
  n : ByteArray
  p : ByteArray
  r : RS
def HD.row (h : HD) : List V := [.str h.n, .str h.p, .rd 4 (sRows h.r.l4), .rd 4 (sRows h.r.l6), .rd 2 (aRows h.r.la)]
def hdOf : List V → Option HD
  | [.str n, .str p, a, b, c] => match rsOf [a, b, c] with
    | some r => some ⟨n, p, r⟩
    | none => none
  | _ => none
theorem hdOf_row (h : HD) : hdOf h.row = some h := by
  have := rsOf_cells h.r
  simp only [RS.cells] at this
  simp only [hdOf, HD.row, this]
theorem hdOf_eq (r : List V) (h : HD) (e : hdOf r = some h) : r = h.row := by
  unfold hdOf at e
  split at e
  · split at e
    · rename_i hr
      cases e
      have := rsOf_eq hr
      simp only [RS.cells, List.cons.injEq, and_true] at this
      obtain ⟨rfl, rfl, rfl⟩ := this
      rfl
    · cases e
  · cases e
abbrev hdsOf := parseRows hdOf
def hRows (l : List HD) : List (List V) := l.map HD.row
theorem hRows_parse (l : List HD) : hdsOf (hRows l) = some l := parse_map hdOf_row l
@[simp] theorem hRows_len (l : List HD) : (hRows l).length = l.length := by simp [hRows]
@[simp] theorem hRows_getElem {l : List HD} {k : Nat} (h : k < (hRows l).length) : (hRows l)[k] = (l[k]'(by rw [hRows_len] at h; exact h)).row := by simp [hRows]
theorem hRows_take (l : List HD) (k : Nat) : (hRows l).take k = hRows (l.take k) := by simp [hRows]
def HD0 : HD := ⟨.empty, .empty, ⟨[], [], []⟩⟩
instance : Inhabited HD := ⟨HD0⟩
def inHD (h : HD) : Prop := h.n.size ≤ 1000000 ∧ h.p.size ≤ 1000000 ∧ inRS h.r ∧ lenRS 1000000 h.r
instance (h : HD) : Decidable (inHD h) := by unfold inHD; infer_instance
def inL (l : List HD) : Prop := (∀ h ∈ l, inHD h) ∧ l.length ≤ 1000
instance (l : List HD) : Decidable (inL l) := by unfold inL; infer_instance
/-- Where a name stands. -/
def plc : List ByteArray → ByteArray → Option Nat
  | [], _ => none
  | a :: l, s => if a = s then some 0 else (plc l s).map (· + 1)
def nmsL (l : List HD) : List ByteArray := l.map HD.n
def keysN (m : List ByteArray) : List V := m.map V.str
def valsN (n : Nat) : List V := (List.range n).map fun i : Nat => V.int .i64 (i : Int)
theorem keysN_str : ∀ m, mstr (keysN m) = true
  | [] => rfl
  | _ :: m => keysN_str m
@[simp] theorem keysN_len (m : List ByteArray) : (keysN m).length = m.length := by simp [keysN]
@[simp] theorem valsN_len (n : Nat) : (valsN n).length = n := by simp [valsN]
theorem mget_from : ∀ (m : List ByteArray) (k : Nat) (s : ByteArray), mget (keysN m) ((List.range' k m.length).map fun i : Nat => V.int .i64 (i : Int)) s = (plc m s).map fun i => V.int .i64 ((k + i : Nat) : Int)
  | [], k, s => rfl
  | a :: m, k, s => by
    have ih := mget_from m (k + 1) s
    simp only [keysN, List.map_cons, List.length_cons, List.range'_succ, mget, plc]
    split
    · rfl
    · simp only [keysN] at ih
      rw [ih]
      cases plc m s with
      | none => rfl
      | some i => simp only [Option.map_some]; congr 3; omega
theorem mget_plc (m : List ByteArray) (s : ByteArray) : mget (keysN m) (valsN m.length) s = (plc m s).map fun i : Nat => V.int .i64 (i : Int) := by
  have := mget_from m 0 s
  rw [← List.range_eq_range'] at this
  simpa [valsN] using this
theorem mput_from : ∀ (m : List ByteArray) (vs : List V) (s : ByteArray) (x : V), vs.length = m.length → (∀ a ∈ m, a ≠ s) → mput (keysN m) vs s x = (keysN (m ++ [s]), vs ++ [x])
  | [], [], s, x, _, _ => rfl
  | [], v :: vs, s, x, h, _ => by simp at h
  | a :: m, [], s, x, h, _ => by simp at h
  | a :: m, v :: vs, s, x, h, hn => by
    have ih := mput_from m vs s x (by simpa using h) fun b hb => hn b (List.mem_cons_of_mem _ hb)
    simp only [keysN, List.map_cons, mput]
    rw [if_neg (hn a List.mem_cons_self)]
    simp only [keysN] at ih
    rw [ih]
    rfl
theorem valsN_snoc (n : Nat) : valsN n ++ [V.int .i64 (n : Int)] = valsN (n + 1) := by simp [valsN, List.range_succ]
theorem mput_new {m : List ByteArray} {s : ByteArray} (h : ∀ a ∈ m, a ≠ s) : mput (keysN m) (valsN m.length) s (.int .i64 m.length) = (keysN (m ++ [s]), valsN (m.length + 1)) := by
  rw [mput_from _ _ _ _ (by simp) h, valsN_snoc]
theorem plc_some : ∀ {m : List ByteArray} {s : ByteArray} {i : Nat}, plc m s = some i → ∃ h : i < m.length, m[i] = s ∧ ∀ j (hj : j < i), m[j]'(by omega) ≠ s
  | [], s, i, h => by simp [plc] at h
  | a :: m, s, i, h => by
    simp only [plc] at h
    split at h
    · rename_i e
      cases h
      exact ⟨by simp, e, fun j hj => by omega⟩
    · rename_i e
      cases hp : plc m s with
      | none => rw [hp] at h; cases h
      | some j =>
        rw [hp] at h
        simp only [Option.map_some, Option.some.injEq] at h
        subst h
        obtain ⟨h1, h2, h3⟩ := plc_some hp
        refine ⟨by simp; omega, by simpa using h2, fun k hk => ?_⟩
        cases k with
        | zero => exact e
        | succ k => have := h3 k (by omega); simpa using this
theorem plc_none : ∀ {m : List ByteArray} {s : ByteArray}, plc m s = none ↔ ∀ a ∈ m, a ≠ s
  | [], s => by simp [plc]
  | a :: m, s => by
    have ih := plc_none (m := m) (s := s)
    simp only [plc]
    split
    · rename_i e; simp [e]
    · rename_i e
      rw [Option.map_eq_none_iff, ih]
      simp [e]
/-- The depth of whoever has this parent, within so many steps. -/
def dep (l : List HD) : Nat → ByteArray → Option Nat
  | 0, p => if p = .empty then some 0 else none
  | f + 1, p => if p = .empty then some 0 else match plc (nmsL l) p with
    | none => none
    | some i => (dep l f (l.getD i HD0).p).map (· + 1)
def okN (l : List HD) (i : Nat) : Bool := nameS (l.getD i HD0).n && (decide (chkR (l.getD i HD0).r = 0) && (decide (i = 0) || bls (l.getD (i - 1) HD0).n (l.getD i HD0).n))
/-- How many of the first ones are right. -/
def lead (p : Nat → Bool) : Nat → Nat
  | 0 => 0
  | n + 1 => if p 0 = true then lead (fun i => p (i + 1)) n + 1 else 0
theorem lead_le : ∀ (n : Nat) (p : Nat → Bool), lead p n ≤ n
  | 0, _ => Nat.le_refl _
  | n + 1, p => by
    have := lead_le n fun i => p (i + 1)
    unfold lead
    split <;> omega
theorem lead_all : ∀ (n : Nat) (p : Nat → Bool), (∀ i, i < lead p n → p i = true)
  | 0, _, i, h => by simp [lead] at h
  | n + 1, p, i, h => by
    unfold lead at h
    split at h
    · rename_i h0
      cases i with
      | zero => exact h0
      | succ i => exact lead_all n (fun i => p (i + 1)) i (by omega)
    · omega
theorem lead_at : ∀ (n : Nat) (p : Nat → Bool) (k : Nat), k ≤ n → (∀ i, i < k → p i = true) → (k < n → p k = false) → lead p n = k
  | 0, p, k, h, _, _ => by have : k = 0 := by omega
                           subst this; rfl
  | n + 1, p, 0, _, _, h => by simp [lead, h (by omega)]
  | n + 1, p, k + 1, h, ha, hb => by
    unfold lead
    rw [if_pos (ha 0 (by omega)), lead_at n (fun i => p (i + 1)) k (by omega) (fun i hi => ha (i + 1) (by omega)) fun hk => hb (by omega)]
def okD (l : List HD) (i : Nat) : Bool := (dep l (l.length + 1) (l.getD i HD0).p).isSome
def depN (l : List HD) (i : Nat) : Nat := (dep l (l.length + 1) (l.getD i HD0).p).getD 0
/-- What comes of a tree when it is opened: how many names its map has, how many depths it has, and the error. -/
def opnE (l : List HD) : Nat × Nat × Int :=
  if 30 < l.length then (0, 0, 4)
  else if lead (okN l) l.length < l.length then (lead (okN l) l.length, 0, 8)
  else if lead (okD l) l.length < l.length then (l.length, lead (okD l) l.length, 8)
  else (l.length, l.length, 0)
def chkT (l : List HD) : Int := (opnE l).2.2
def depRow (d : Nat) : List V := [.int .i64 (d : Int)]
def depRows (l : List HD) (k : Nat) : List (List V) := (List.range k).map fun i => depRow (depN l i)
theorem depRows_snoc (l : List HD) (k : Nat) : depRows l k ++ [depRow (depN l k)] = depRows l (k + 1) := by simp [depRows, List.range_succ]
@[simp] theorem depRows_len (l : List HD) (k : Nat) : (depRows l k).length = k := by simp [depRows]
@[simp] theorem depRows_getElem (l : List HD) (k i : Nat) (h : i < (depRows l k).length) : (depRows l k)[i] = depRow (depN l i) := by simp [depRows]
theorem hd_get {l : List HD} {k : Nat} (h : k < l.length) : l.getD k HD0 = l[k] := by rw [List.getD_eq_getElem?_getD, List.getElem?_eq_getElem h]; rfl
theorem nms_take (l : List HD) (k : Nat) : nmsL (l.take k) = (nmsL l).take k := by simp [nmsL]
@[simp] theorem nms_len (l : List HD) : (nmsL l).length = l.length := by simp [nmsL]
theorem okN_sorted {l : List HD} {k : Nat} (hk : k ≤ l.length) (h : ∀ i, i < k → okN l i = true) : ∀ j, j < k → ∀ i, i < j → bls (l.getD i HD0).n (l.getD j HD0).n = true
  | 0, _, i, hi => by omega
  | j + 1, hj, i, hi => by
    have h1 := h (j + 1) hj
    unfold okN at h1
    simp only [Bool.and_eq_true, Bool.or_eq_true, decide_eq_true_eq, Nat.add_sub_cancel] at h1
    have h2 : bls (l.getD j HD0).n (l.getD (j + 1) HD0).n = true := h1.2.2.resolve_left (by omega)
    rcases Nat.lt_or_ge i j with g | g
    · exact bls_trans (okN_sorted hk h j (by omega) i g) h2
    · have : i = j := by omega
      subst this; exact h2
theorem okN_new {l : List HD} {k : Nat} (hk : k < l.length) (h : ∀ i, i < k + 1 → okN l i = true) : ∀ a ∈ nmsL (l.take k), a ≠ l[k].n := by
  intro a ha
  obtain ⟨x, hx, rfl⟩ := List.mem_map.1 ha
  obtain ⟨i, hi, rfl⟩ := List.getElem_of_mem hx
  have hik : i < k := by rw [List.length_take] at hi; omega
  have := okN_sorted (by omega) h k (by omega) i hik
  rw [hd_get hk, hd_get (show i < l.length by omega)] at this
  rw [List.getElem_take]
  exact bls_ne this
theorem keysN_clean : ∀ m, cleanL (keysN m) = true
  | [] => rfl
  | _ :: m => keysN_clean m
theorem keysN_closed : ∀ m, closedL (keysN m) = true
  | [] => rfl
  | _ :: m => keysN_closed m
theorem ints_clean : ∀ m : List Nat, cleanL (m.map fun i : Nat => V.int .i64 (i : Int)) = true ∧ closedL (m.map fun i : Nat => V.int .i64 (i : Int)) = true
  | [] => ⟨rfl, rfl⟩
  | _ :: m => by have := ints_clean m; exact ⟨by simpa [cleanL, V.clean] using this.1, by simpa [closedL, V.closed] using this.2⟩
theorem valsN_clean (n : Nat) : cleanL (valsN n) = true := (ints_clean _).1
theorem valsN_closed (n : Nat) : closedL (valsN n) = true := (ints_clean _).2
attribute [simp] keysN_str keysN_clean keysN_closed valsN_clean valsN_closed
theorem mget_at (l : List HD) (s : ByteArray) : mget (keysN (nmsL l)) (valsN l.length) s = (plc (nmsL l) s).map fun i : Nat => V.int .i64 (i : Int) := by
  have := mget_plc (nmsL l) s
  rwa [nms_len] at this
theorem plc_lt {l : List HD} {s : ByteArray} {i : Nat} (h : plc (nmsL l) s = some i) : i < l.length := by
  obtain ⟨h1, _⟩ := plc_some h
  simpa using h1
theorem dep_emp (l : List HD) (f : Nat) : dep l f .empty = some 0 := by cases f <;> simp [dep]
theorem dep_step {l : List HD} {f i : Nat} {p : ByteArray} (hp : p ≠ .empty) (hi : plc (nmsL l) p = some i) : dep l (f + 1) p = (dep l f (l.getD i HD0).p).map (· + 1) := by
  simp only [dep]; rw [if_neg hp, hi]
theorem dep_none {l : List HD} {f : Nat} {p : ByteArray} (hp : p ≠ .empty) (hi : plc (nmsL l) p = none) : dep l f p = none := by
  cases f with
  | zero => simp [dep, hp]
  | succ f => simp [dep, hp, hi]
theorem dep_zero {l : List HD} {p : ByteArray} (hp : p ≠ .empty) : dep l 0 p = none := by simp [dep, hp]
@[simp] theorem keysN_lt (n : Nat) (m : List ByteArray) : ltL n (keysN m) = true := (cleanL_ren [] n _ (keysN_clean m)).1
@[simp] theorem keysN_ren (ns : List Nat) (m : List ByteArray) : renL ns (keysN m) = keysN m := (cleanL_ren ns 0 _ (keysN_clean m)).2
@[simp] theorem valsN_lt (n k : Nat) : ltL n (valsN k) = true := (cleanL_ren [] n _ (valsN_clean k)).1
@[simp] theorem valsN_ren (ns : List Nat) (k : Nat) : renL ns (valsN k) = valsN k := (cleanL_ren ns 0 _ (valsN_clean k)).2
end Go.Proofs.Ytkcmgjagjbiinaa.AL
namespace Go.Proofs.Ytkcmgjagjbiinaa.AL
open Go
section
variable {P : Program} [Gl P]
theorem norm_wk {s : St} (ns : List Nat) {l : List (Nat × V)} {h : List Blk} {nt : Nat} (hk : wkOkx ns l h { nt := nt } s) : Wk P s (mk l h nt) := Wk.mk hk
/-- A cut behind which the state may be brought into form by what weakens it. -/
theorem W.cutw {a b : Code} {s : St} {Q : AX → St → Prop} (C : Prop) (l : List (Nat × V)) (h : List Blk) (nt : Nat)
    (h1 : W P a s (thenA (fun s' => C ∧ Wk P s' (mk l h nt)) Q)) (h2 : C → W P b (mk l h nt) Q) : W P (.seq a b) s Q :=
  W.seq (W.mono h1 fun e s' hq => by
    cases e with
    | normal => exact W.wk hq.2 (h2 hq.1)
    | _ => exact hq)
/-- What a box holds, told more weakly. -/
theorem Wk.weakB {s : St} (b : Nat) {bt : TypeId} {cells : List V} (cells' : List V) (hb : s.hp b = some (.box bt cells)) (h : ∀ E vs, RL E cells vs → RL E cells' vs) : Wk P s (s.setB b (.box bt cells')) := by
  intro X E a hs
  obtain ⟨hD, hB⟩ := hs.hp.blk b _ hb
  refine ⟨E, rfl, ⟨⟨⟨⟨fun y z hz => ?_, fun y y' z z' g hz hz' hg hg' => ?_⟩, hs.gl, hs.AO, hs.Fz, hs.OA, hs.Oz⟩, hs.top, hs.kp, hs.defers, hs.nt, hs.tm⟩, hs.nx⟩⟩
  · by_cases e : y = b
    · subst e
      simp only [St.setB, upd_same, Option.some.injEq] at hz
      subst hz
      refine ⟨hD, ?_⟩
      simp only [BRel] at hB ⊢
      obtain ⟨g, arr, h1, h2, h3, h4⟩ := hB
      exact ⟨g, arr, h1, h2, h _ _ h3, h4⟩
    · simp only [St.setB, upd_other _ _ e] at hz
      exact hs.hp.blk y z hz
  · have key : ∀ y z, (upd s.hp b (some (.box bt cells'))) y = some z → ∃ z0, s.hp y = some z0 := by
      intro y z hz
      by_cases e : y = b
      · subst e; exact ⟨_, hb⟩
      · rw [upd_other _ _ e] at hz; exact ⟨_, hz⟩
    obtain ⟨z0, h0⟩ := key y z hz
    obtain ⟨z1, h1⟩ := key y' z' hz'
    exact hs.hp.sep y y' z0 z1 g h0 h1 hg hg'
theorem nils_RL (E : Env) (vs : List Value) (h : RL E [.nils, .nils, .nils] vs) : RL E [.rd 4 [], .rd 4 [], .rd 2 []] vs := by
  simp only [RL] at h ⊢
  obtain ⟨w1, ws1, rfl, g1, w2, ws2, rfl, g2, w3, ws3, rfl, g3, rfl⟩ := h
  exact ⟨_, _, rfl, R_nils_rd 4 g1, _, _, rfl, R_nils_rd 4 g2, _, _, rfl, R_nils_rd 2 g3, rfl⟩
end
end Go.Proofs.Ytkcmgjagjbiinaa.AL
namespace Go.Proofs.Ytkcmgjagjbiinaa.AL
open Go
section
variable {P : Program} [Gl P]
/-- Rows of clean cells are such as may be read. -/
theorem Wk.toSl {s : St} (b : Nat) {sz : Nat} {ty : TypeId} {rows : List (List V)} (hb : s.hp b = some (.slo sz ty rows)) (h : ∀ r ∈ rows, ∀ c ∈ r, c.tree = true) : Wk P s (s.setB b (.sl sz ty rows)) := by
  intro X E a hs
  obtain ⟨hD, hB⟩ := hs.hp.blk b _ hb
  refine ⟨E, rfl, ⟨⟨⟨⟨fun y z hz => ?_, fun y y' z z' g hz hz' hg hg' => ?_⟩, hs.gl, hs.AO, hs.Fz, hs.OA, hs.Oz⟩, hs.top, hs.kp, hs.defers, hs.nt, hs.tm⟩, hs.nx⟩⟩
  · by_cases e : y = b
    · subst e
      simp only [St.setB, upd_same, Option.some.injEq] at hz
      subst hz
      refine ⟨hD, ?_⟩
      simp only [BRel] at hB ⊢
      rcases hB with ⟨vs, h1, h2, h3, h4, h5, h6⟩ | hB
      · exact .inl ⟨vs, h1, h2, h3, h4, fun r hr => ⟨(h5 r hr).1, h r hr⟩, h6⟩
      · exact .inr hB
    · simp only [St.setB, upd_other _ _ e] at hz
      exact hs.hp.blk y z hz
  · have key : ∀ y z, (upd s.hp b (some (.sl sz ty rows))) y = some z → ∃ z0, s.hp y = some z0 := by
      intro y z hz
      by_cases e : y = b
      · subst e; exact ⟨_, hb⟩
      · rw [upd_other _ _ e] at hz; exact ⟨_, hz⟩
    obtain ⟨z0, h0⟩ := key y z hz
    obtain ⟨z1, h1⟩ := key y' z' hz'
    exact hs.hp.sep y y' z0 z1 g h0 h1 hg hg'
/-- A loop whose rounds end in what may be weakened to the next form. -/
theorem W.forw {c : Code} {s : St} {Q : AX → St → Prop} (J : Nat → Prop) (l : Nat → List (Nat × V)) (h : Nat → List Blk) (nt : Nat) (N : Nat) (hJ : J 0) (h0 : wkE (l 0) (h 0) { nt := nt } s)
    (round : ∀ k, k ≤ N → J k → W P c (mk (l k) (h k) nt) (thenA (fun s' => (k < N ∧ J (k + 1)) ∧ Wk P s' (mk (l (k + 1)) (h (k + 1)) nt)) Q)) : W P (.loop c) s Q := by
  obtain ⟨ns0, h0⟩ := h0
  refine W.loop (ι := { k : Nat // k ≤ N ∧ J k }) (fun k => mk (l k.1) (h k.1) nt) (fun k => N - k.1) ⟨0, Nat.zero_le _, hJ⟩ (Wk.mk h0) fun k => ?_
  refine W.mono (round k.1 k.2.1 k.2.2) fun e s' hq => ?_
  cases e with
  | normal => exact ⟨⟨k.1 + 1, hq.1.1, hq.1.2⟩, hq.2, by have := hq.1.1; show N - (k.1 + 1) < N - k.1; omega⟩
  | _ => exact hq
end
end Go.Proofs.Ytkcmgjagjbiinaa.AL
namespace Go.Proofs.Ytkcmgjagjbiinaa.AL
open Go
/-- A nil slice that a box holds is a row of the call's own, with no element. -/
theorem Wk.adoptB {P : Program} [Gl P] {s : St} (b0 i : Nat) (sz : Nat) (ty : TypeId) {bt : TypeId} {cells : List V} (hsz : 0 < sz) (hb : s.hp b0 = some (.box bt cells)) (hi : cells[i]? = some .nils) :
    Wk P s (((s.setB b0 (.box bt (cells.set i (.own s.nx)))).setB s.nx (.sl sz ty [])).setN (s.nx + 1)) := by
  intro X E a hs
  obtain ⟨E', hE'⟩ : ∃ E' : Env, E' = { w := E.w, O := E.O, σ := upd E.σ s.nx (.slice none 0 0), D := fun b => E.D b ∨ b = s.nx } := ⟨_, rfl⟩
  have hne : ∀ b, E.D b → b ≠ s.nx := fun b hb => by have := hs.nx b hb; omega
  have hle : E.le E' := by
    subst hE'
    exact ⟨fun b h => .inl h, fun b h => upd_other _ _ (hne b h), Nat.le_refl _, fun _ _ h => ⟨rfl, h⟩⟩
  have hσn : E'.σ s.nx = .slice none 0 0 := by subst hE'; exact upd_same _ _ _
  have hw : E'.w = E.w := by subst hE'; rfl
  have hO : E'.O = E.O := by subst hE'; rfl
  have hD : ∀ b, E'.D b ↔ E.D b ∨ b = s.nx := fun b => by subst hE'; exact Iff.rfl
  have hbne : b0 ≠ s.nx := hne b0 (hs.hp.blk b0 _ hb).1
  have hBx : BRel X.F E' (E'.σ b0) (.box bt (cells.set i (.own s.nx))) := by
    obtain ⟨h1, h2⟩ := hs.hp.blk b0 _ hb
    have h3 := h2.keep (E' := E') hle (fun g hg => by rw [hO]; exact hg) (fun g _ => by rw [hw])
    rw [hle.σ b0 h1]
    simp only [BRel] at h3 ⊢
    obtain ⟨g, arr, hσ, hh, hR, h1, hF, hO1⟩ := h3
    refine ⟨g, arr, hσ, hh, ?_, h1, hF, hO1⟩
    obtain ⟨v, hv, hRv⟩ := RL.get hR hi
    simp only [R] at hRv
    have hR2 := RL.set (E := E') (c := .own s.nx) (v := v) (by simp only [R]; exact ⟨(hD _).2 (.inr rfl), hRv.trans hσn.symm, _, _, _, hRv⟩) i hR
    have e : arr.toList.set i v = arr.toList := by
      refine List.ext_getElem? fun k => ?_
      rw [List.getElem?_set]
      split
      · rename_i e; subst e
        split
        · exact hv.symm
        · rename_i h; rw [List.getElem?_eq_none (by omega)]
      · rfl
    rw [e] at hR2
    exact hR2
  have hH : HRel X.F E' (upd (upd s.hp b0 (some (.box bt (cells.set i (.own s.nx))))) s.nx (some (.sl sz ty []))) := by
    have old : ∀ b x, b ≠ s.nx → (upd s.hp b0 (some (.box bt (cells.set i (.own s.nx))))) b = some x → E.D b ∧ (∃ y, s.hp b = some y) ∧ BRel X.F E' (E'.σ b) x := by
      intro b x e hx
      by_cases e2 : b = b0
      · subst e2
        rw [upd_same] at hx
        cases hx
        exact ⟨(hs.hp.blk b _ hb).1, ⟨_, hb⟩, hBx⟩
      · rw [upd_other _ _ e2] at hx
        obtain ⟨h1, h2⟩ := hs.hp.blk b x hx
        refine ⟨h1, ⟨_, hx⟩, ?_⟩
        rw [hle.σ b h1]
        exact h2.keep hle (fun g hg => by rw [hO]; exact hg) (fun g _ => by rw [hw])
    refine ⟨fun b x hx => ?_, fun b b' x x' g hx hx' hg hg' => ?_⟩
    · by_cases e : b = s.nx
      · subst e
        simp only [upd_same, Option.some.injEq] at hx
        subst hx
        refine ⟨(hD _).2 (.inr rfl), ?_⟩
        rw [hσn]
        exact .inr ⟨rfl, hsz, none, rfl⟩
      · rw [upd_other _ _ e] at hx
        obtain ⟨h1, _, h2⟩ := old b x e hx
        exact ⟨(hD _).2 (.inl h1), h2⟩
    · by_cases e : b = s.nx
      · rw [e, hσn] at hg
        simp [blkOf] at hg
      · by_cases e' : b' = s.nx
        · rw [e', hσn] at hg'
          simp [blkOf] at hg'
        · rw [upd_other _ _ e] at hx
          rw [upd_other _ _ e'] at hx'
          obtain ⟨d1, ⟨y, hy⟩, _⟩ := old b x e hx
          obtain ⟨d2, ⟨y', hy'⟩, _⟩ := old b' x' e' hx'
          rw [hle.σ b d1] at hg
          rw [hle.σ b' d2] at hg'
          exact hs.hp.sep b b' y y' g hy hy' hg hg'
  refine ⟨E', hw, ⟨⟨⟨hH, fun g => R.mono hle _ _ (hs.gl g), by rw [hO]; exact hs.AO, by rw [hw]; exact hs.Fz, by rw [hO]; exact hs.OA, by rw [hO, hw]; exact hs.Oz⟩, hs.top, fun hk => X.Km E E' hle (hs.kp hk), hs.defers.mono hle, hs.nt, fun t' => R.mono hle _ _ (hs.tm t')⟩, fun b hb => ?_⟩⟩
  show b < s.nx + 1
  rcases (hD b).1 hb with h | h
  · have := hs.nx b h; omega
  · omega
end Go.Proofs.Ytkcmgjagjbiinaa.AL
namespace Go.Proofs.Ytkcmgjagjbiinaa.AL
open Go
/-- A nil list of resources, read as one without elements. -/
def nilN (sz : Nat) : V → V
  | .nils => .rd sz []
  | x => x
def nilR : V → V
  | .agg [a, b, c] => .agg [nilN 4 a, nilN 4 b, nilN 2 c]
  | x => x
theorem nilN_R {E : Env} (sz : Nat) {x : V} {v : Value} (h : R E x v) : R E (nilN sz x) v := by
  unfold nilN
  split
  · exact R_nils_rd sz h
  · exact h
theorem nilR_R {E : Env} {x : V} {v : Value} (h : R E x v) : R E (nilR x) v := by
  unfold nilR
  split
  · rename_i a b c
    simp only [R, RL] at h ⊢
    obtain ⟨ws, rfl, w1, ws1, rfl, g1, w2, ws2, rfl, g2, w3, ws3, rfl, g3, rfl⟩ := h
    exact ⟨_, rfl, _, _, rfl, nilN_R 4 g1, _, _, rfl, nilN_R 4 g2, _, _, rfl, nilN_R 2 g3, rfl⟩
  · exact h
theorem nilR_RL {E : Env} : ∀ (xs : List V) (vs : List Value), RL E xs vs → RL E (xs.map nilR) vs
  | [], vs, h => h
  | x :: xs, vs, h => by
    simp only [RL, List.map_cons] at h ⊢
    obtain ⟨v, vs', rfl, h1, h2⟩ := h
    exact ⟨v, vs', rfl, nilR_R h1, nilR_RL xs vs' h2⟩
theorem runs_nilR {P : Program} [Gl P] {f : FuncId} {S : List V → Option Res} (h : ∀ args r, S args = some r → Runs P f args r) : ∀ args r, S (args.map nilR) = some r → Runs P f args r :=
  fun args r hr => Runs.weak (fun E vs hv => nilR_RL args vs hv) (h _ _ hr)
end Go.Proofs.Ytkcmgjagjbiinaa.AL
namespace Go.Proofs.Ytkcmgjagjbiinaa.AL
open Go
attribute [local simp] qf cv qbin ibin sbin qun retPost rvOk ctV ctPost marksOk retV resAll resOf V.lt ltL V.ren renL V.exp V.exp1 cleanL V.clean closedL V.closed V.cells V.one V.tree
  loadV cellsAt isNC nilQ isSlD isIfD slNew ownRows ownCells V.isOwn slStore srcO qlook mlook mget mstr zval qnone qmake mput lmap isAggD placesOf fillV putCells lstore bound seqParts V.sh shL Blk.sh newV V.ok peqs peq srcRows qbytes byteSl appOk mmV mmR hidE V.fz fzL Blk.fz fzOk and_assoc
attribute [-simp] Int.not_le Int.not_lt Nat.not_le Nat.not_lt

end Go.Proofs.Ytkcmgjagjbiinaa.AL
