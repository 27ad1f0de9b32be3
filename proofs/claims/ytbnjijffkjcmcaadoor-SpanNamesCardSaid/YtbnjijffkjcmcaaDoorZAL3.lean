import Derived.Test.YtbnjijffkjcmcaaDoorZAL2
import Derived.OpenShut
import Derived.ChangeArms
import Derived.ProofKit
import Derived.ShutString
import Derived.ChangeOld
import Derived.DeepKeys
import Derived.ChangeKeysEq
import Derived.Laws.StructEq
import Derived.Laws.Strings
/- A logic of abstract values for walking functions: a part of the proof; no conditions. -/
set_option linter.unusedVariables false
set_option linter.unusedSimpArgs false
set_option linter.unusedSectionVars false
namespace Go.Proofs.YtbnjijffkjcmcaaDoor.AL
open Go
mutual
def V.ren (ns : List Nat) : V → V
  | .own b => .own (ns.getD b 0)
  | .ptr b o => .ptr (ns.getD b 0) o
  | .eptr b s i o => .eptr (ns.getD b 0) s i o
  | .agg cs => .agg (renL ns cs)
  | .tup cs => .tup (renL ns cs)
  | .fn f fi cs => .fn f (renL ns fi) (renL ns cs)
  | .yld b => .yld (ns.getD b 0)
  | .mp b => .mp (ns.getD b 0)
  | .mrd ks vs => .mrd ks vs
  | .iface t v => .iface t (v.ren ns)
  | .int q n => .int q n
  | .bool x => .bool x
  | .str s => .str s
  | .nilp => .nilp
  | .nils => .nils
  | .nilfn => .nilfn
  | .nilif => .nilif
  | .nilm => .nilm
  | .bany => .bany
  | .iany k => .iany k
  | .rd sz rows => .rd sz rows
  | .rptr r o => .rptr r o
  | .junk => .junk
def renL (ns : List Nat) : List V → List V
  | [] => []
  | c :: cs => c.ren ns :: renL ns cs
end
mutual
def V.lt (n : Nat) : V → Bool
  | .own b => decide (b < n)
  | .ptr b o => decide (b < n)
  | .eptr b s i o => decide (b < n)
  | .agg cs => ltL n cs
  | .tup cs => ltL n cs
  | .fn f fi cs => ltL n fi && ltL n cs
  | .yld b => decide (b < n)
  | .mp b => decide (b < n)
  | .iface t v => v.lt n
  | _ => true
def ltL (n : Nat) : List V → Bool
  | [] => true
  | c :: cs => c.lt n && ltL n cs
end
/-- The environment in which name i is E's name ns[i]. -/
def Env.ren (E : Env) (ns : List Nat) : Env := { w := E.w, O := E.O, σ := fun i => E.σ (ns.getD i 0), D := fun i => i < ns.length }
theorem Env.ren_le0 (E : Env) (ns : List Nat) : E.le0 (E.ren ns) := ⟨Nat.le_refl _, fun _ _ h => ⟨rfl, h⟩⟩
mutual
theorem R.ren {E : Env} {ns : List Nat} : ∀ (x : V) (v : Value), x.lt ns.length = true → R E (x.ren ns) v → R (E.ren ns) x v
  | .int _ _, v, _, hv => by simpa only [R, V.ren] using hv
  | .bool _, v, _, hv => by simpa only [R, V.ren] using hv
  | .str _, v, _, hv => by simpa only [R, V.ren] using hv
  | .nilp, v, _, hv => by simpa only [R, V.ren] using hv
  | .nils, v, _, hv => by simpa only [R, V.ren] using hv
  | .nilfn, v, _, hv => by simpa only [R, V.ren] using hv
  | .nilif, v, _, hv => by simpa only [R, V.ren] using hv
  | .nilm, v, _, hv => by simpa only [R, V.ren] using hv
  | .bany, v, _, hv => by simpa only [R, V.ren] using hv
  | .iany k, v, _, hv => by simpa only [R, V.ren] using hv
  | .rd sz rows, v, _, hv => by simp only [V.ren] at hv; exact R.mono0 (E.ren_le0 ns) _ _ rfl hv
  | .rptr row off, v, _, hv => by simp only [V.ren] at hv; exact R.mono0 (E.ren_le0 ns) _ _ rfl hv
  | .mrd ks vs, v, _, hv => by simp only [V.ren] at hv; exact R.mono0 (E.ren_le0 ns) _ _ rfl hv
  | .yld x, v, hl, hv => by
    simp only [R, V.ren, V.lt, decide_eq_true_eq] at hv hl ⊢
    exact ⟨hl, hv.2⟩
  | .mp x, v, hl, hv => by
    simp only [R, V.ren, V.lt, decide_eq_true_eq] at hv hl ⊢
    exact ⟨hl, hv.2.1, hv.2.2⟩
  | .own x, v, hl, hv => by
    simp only [R, V.ren, V.lt, decide_eq_true_eq] at hv hl ⊢
    exact ⟨hl, hv.2.1, hv.2.2⟩
  | .ptr x off, v, hl, hv => by
    simp only [R, V.ren, V.lt, decide_eq_true_eq] at hv hl ⊢
    exact ⟨hl, hv.2⟩
  | .eptr x sz i off, v, hl, hv => by
    simp only [R, V.ren, V.lt, decide_eq_true_eq] at hv hl ⊢
    exact ⟨hl, hv.2⟩
  | .fn f fi caps, v, hl, hv => by
    simp only [R, V.ren, V.lt, Bool.and_eq_true] at hv hl ⊢
    obtain ⟨us, vs, rfl, h1, h2⟩ := hv
    exact ⟨us, vs, rfl, RL.ren fi us hl.1 h1, RL.ren caps vs hl.2 h2⟩
  | .iface t x, v, hl, hv => by
    simp only [R, V.ren, V.lt] at hv hl ⊢
    obtain ⟨u, rfl, hr⟩ := hv
    exact ⟨u, rfl, R.ren x u hl hr⟩
  | .agg cs, v, hl, hv => by
    simp only [R, V.ren, V.lt] at hv hl ⊢
    obtain ⟨vs, rfl, hr⟩ := hv
    exact ⟨vs, rfl, RL.ren cs vs hl hr⟩
  | .tup cs, v, hl, hv => by
    simp only [R, V.ren, V.lt] at hv hl ⊢
    obtain ⟨vs, rfl, hr⟩ := hv
    exact ⟨vs, rfl, RL.ren cs vs hl hr⟩
  | .junk, v, _, hv => by simp only [R]
theorem RL.ren {E : Env} {ns : List Nat} : ∀ (cs : List V) (vs : List Value), ltL ns.length cs = true → RL E (renL ns cs) vs → RL (E.ren ns) cs vs
  | [], vs, _, hv => by simpa only [RL, renL] using hv
  | c :: cs, vs, hl, hv => by
    simp only [RL, renL, ltL, Bool.and_eq_true] at hv hl ⊢
    obtain ⟨v, vs', rfl, h1, h2⟩ := hv
    exact ⟨v, vs', rfl, R.ren c v hl.1 h1, RL.ren cs vs' hl.2 h2⟩
end

def resOf (P : Program) (s : St) : ResultVar → Option (Prop × V)
  | .tmp t => some (True, s.tm t)
  | .cell t ty => match P.underlying ty with
    | some d => match cellsAt s.hp (s.tm t) with
      | some cc => match loadV P ty d cc.1 cc.2 with
        | .val c v => some (cc.1 ∧ c, v)
        | _ => none
      | none => none
    | none => none
def resAll (P : Program) (s : St) : List ResultVar → Option (Prop × List V)
  | [] => some (True, [])
  | x :: xs => match resOf P s x with
    | some cv => match resAll P s xs with
      | some cvs => some (cv.1 ∧ cvs.1, cv.2 :: cvs.2)
      | none => none
    | none => none
def retV (P : Program) (fn : Func) (s : St) : Option (Prop × V) :=
  match resAll P s fn.results.toList with
  | some cvs => match cvs.2 with
    | [x] => some (cvs.1, x)
    | xs => some (cvs.1, .tup xs)
  | none => none
def initTm (args : List V) : Nat → V := fun t => args.getD t .junk
def initSt (args : List V) (nt : Nat) : St := { tm := initTm args, hp := fun _ => none, nx := 0, nt := nt }
/-- A block may hold what the loop's marks leave. -/
def St.unmark (s : St) : St := { s with hp := fun b => if s.df.contains b then none else s.hp b, df := [] }
def marksOk (s : St) : Prop := s.df.Nodup ∧ ∀ b ∈ s.df, s.hp b = some (.obj (.deferred (some [])))
def Blk.ren (ns : List Nat) : Blk → Blk
  | .box ty cs => .box ty (renL ns cs)
  | .sl sz ty rows => .sl sz ty rows
  | .slo sz ty rows => .slo sz ty (rows.map (renL ns))
  | .obj o => .obj o
  | .loop st pend fn tm nt ps assign body d => .loop st pend fn (fun t => (tm t).ren ns) nt ps assign body (ns.getD d 0)
  | .map ks vs => .map (renL ns ks) (renL ns vs)
def Blk.lt (n : Nat) : Blk → Bool
  | .box _ cs => ltL n cs
  | .sl _ _ _ => true
  | .slo _ _ rows => rows.all (ltL n)
  | .obj _ => true
  | .loop _ _ _ _ _ _ _ _ _ => false
  | .map ks vs => ltL n ks && ltL n vs
def hpOk (ns : List Nat) (s : St) : List Nat → List Blk → Prop
  | [], [] => True
  | n :: ms, b :: bs => (b.lt ns.length = true ∧ s.hp n = some (b.ren ns)) ∧ hpOk ns s ms bs
  | _, _ => False
def rvOk (r : V) : Option (Prop × V) → Prop
  | some cv => cv.1 ∧ cv.2 = r
  | none => False
/-- The state at a function's end gives the result r; ns: the names of its blocks. -/
def RetOk (P : Program) (fn : Func) (r : Res) (s : St) : Prop :=
  ∃ ns : List Nat, ns.Nodup ∧ r.v.lt ns.length = true ∧ hpOk ns s ns r.bs ∧ rvOk (r.v.ren ns) (retV P fn s)
def retPost (P : Program) (fn : Func) (r : Res) : AX → St → Prop
  | .normal, s => marksOk s ∧ RetOk P fn r s.unmark
  | .ret, s => marksOk s ∧ RetOk P fn r s.unmark
  | _, _ => False
def ctV (K : V → Prop) : Option (Prop × V) → Prop
  | some cv => cv.1 ∧ K cv.2
  | none => False
/-- What a body owes whose call a contract describes. -/
def ctPost (P : Program) (fn : Func) (K X : V → St → Prop) : AX → St → Prop
  | .normal, s => s.kp = true ∧ marksOk s ∧ ctV (fun v => K v s.unmark) (retV P fn s.unmark)
  | .ret, s => s.kp = true ∧ marksOk s ∧ ctV (fun v => K v s.unmark) (retV P fn s.unmark)
  | .panic v, s => s.kp = true ∧ s.df = [] ∧ X v s
  | _, _ => False
/-- The state in which a body begins. -/
def St.enter (s : St) (args : List V) (nt : Nat) : St := { tm := initTm args, hp := s.hp, nx := s.nx, nt := nt }

section
variable {P : Program} [Gl P] {X : Fr} {E : Env} {a : Act} {s : St}
def readRes (tmps : Array Value) : ResultVar → Sem Value
  | .tmp t => pure (tmps.getD t undef)
  | .cell a t => do loadVar t (← asAddr (tmps.getD a undef))
theorem resOf_sound (hs : CRel P X E a s) {x : ResultVar} {cv : Prop × V} (h : resOf P s x = some cv) (hc : cv.1) : ∃ u, (readRes a.tmps x).run P E.w = .ok u E.w ∧ R E cv.2 u := by
  cases x with
  | tmp t =>
    simp only [resOf, Option.some.injEq] at h
    subst h
    exact ⟨_, rfl, hs.tm t⟩
  | cell t ty =>
    simp only [resOf] at h
    split at h
    · rename_i d hd
      split at h
      · rename_i cc hcc
        split at h
        · rename_i c v hl
          simp only [Option.some.injEq] at h
          subst h
          obtain ⟨g, o, vs, hv, hR, hcell, _⟩ := cellsAt_sound hs.hp (hs.tm t) hcc hc.1
          obtain ⟨u, hu, hRu⟩ := run_loadVar' hd hR hcell hl hc.2
          refine ⟨u, ?_, hRu⟩
          simp only [readRes, hv, asAddr, pure_bind, hu]
        · exact absurd h (by simp)
      · exact absurd h (by simp)
    · exact absurd h (by simp)
theorem resAll_sound (hs : CRel P X E a s) : ∀ {xs : List ResultVar} {cvs : Prop × List V}, resAll P s xs = some cvs → cvs.1 → ∃ us, (xs.mapM (readRes a.tmps)).run P E.w = .ok us E.w ∧ RL E cvs.2 us
  | [], cvs, h, _ => by
    simp only [resAll, Option.some.injEq] at h
    subst h
    exact ⟨[], rfl, by simp only [RL]⟩
  | x :: xs, cvs, h, hc => by
    simp only [resAll] at h
    split at h
    · rename_i cv hcv
      split at h
      · rename_i cvs' hcvs
        simp only [Option.some.injEq] at h
        subst h
        obtain ⟨u, hu, hR⟩ := resOf_sound hs hcv hc.1
        obtain ⟨us, hus, hRs⟩ := resAll_sound hs hcvs hc.2
        refine ⟨u :: us, ?_, by simp only [RL]; exact ⟨u, us, rfl, hR, hRs⟩⟩
        simp only [List.mapM_cons, Sem.run_bind, hu, Result.andThen_ok, hus, Sem.run_pure]
      · exact absurd h (by simp)
    · exact absurd h (by simp)
theorem retV_sound (hs : CRel P X E a s) {fn : Func} {cv : Prop × V} (h : retV P fn s = some cv) (hc : cv.1) : ∃ u, (results fn a.tmps).run P E.w = .ok u E.w ∧ R E cv.2 u := by
  unfold retV at h
  split at h
  · rename_i cvs hcvs
    have hc' : cvs.1 := by split at h <;> simp only [Option.some.injEq] at h <;> subst h <;> exact hc
    obtain ⟨us, hus, hR⟩ := resAll_sound hs hcvs hc'
    have hrun : ∀ u : Value, (if hl : us.toArray.size = 1 then us.toArray[0] else Value.tuple us.toArray) = u → (results fn a.tmps).run P E.w = .ok u E.w := by
      intro u hu
      have e : results fn a.tmps = (do
          let vs ← fn.results.mapM (readRes a.tmps)
          pure (if h : vs.size = 1 then vs[0] else .tuple vs)) := by
        unfold results
        rfl
      rw [e, Array.mapM_eq_mapM_toList]
      simp only [Sem.run_bind, Sem.run_map, hus, Result.andThen_ok, Sem.run_pure]
      rw [hu]
    split at h
    · rename_i x hx
      simp only [Option.some.injEq] at h
      subst h
      rw [hx] at hR
      simp only [RL] at hR
      obtain ⟨u, vs', rfl, hRu, rfl⟩ := hR
      exact ⟨u, hrun u (by simp), hRu⟩
    · rename_i xs hx
      simp only [Option.some.injEq] at h
      subst h
      refine ⟨.tuple us.toArray, hrun _ ?_, by simp only [R]; exact ⟨us, rfl, hR⟩⟩
      rw [dif_neg]
      intro hl
      have hl' : us.length = 1 := by simpa using hl
      rw [hR.length] at hl'
      match hcl : cvs.2, hl' with
      | [x], _ => exact hx x hcl
  · exact absurd h (by simp)


theorem renL_append (ns : List Nat) : ∀ (a b : List V), renL ns (a ++ b) = renL ns a ++ renL ns b
  | [], b => rfl
  | c :: a, b => by simp only [List.cons_append, renL, renL_append ns a b]
theorem renL_flatten (ns : List Nat) : ∀ (rows : List (List V)), renL ns rows.flatten = (rows.map (renL ns)).flatten
  | [] => rfl
  | r :: rows => by simp only [List.flatten_cons, List.map_cons, renL_append, renL_flatten ns rows]
theorem renL_length (ns : List Nat) : ∀ (a : List V), (renL ns a).length = a.length
  | [] => rfl
  | c :: a => by simp only [renL, List.length_cons, renL_length ns a]
theorem ltL_append (n : Nat) : ∀ {a b : List V}, ltL n a = true → ltL n b = true → ltL n (a ++ b) = true
  | [], b, _, hb => hb
  | c :: a, b, ha, hb => by
    simp only [List.cons_append, ltL, Bool.and_eq_true] at ha ⊢
    exact ⟨ha.1, ltL_append n ha.2 hb⟩
theorem ltL_flatten {n : Nat} : ∀ {rows : List (List V)}, (∀ r ∈ rows, ltL n r = true) → ltL n rows.flatten = true
  | [], _ => rfl
  | r :: rows, h => by
    rw [List.flatten_cons]
    exact ltL_append n (h r (by simp)) (ltL_flatten fun q hq => h q (by simp [hq]))
theorem BRel.ren {F : Nat → Prop} {E : Env} {ns : List Nat} {v : Value} {b : Blk} (hl : b.lt ns.length = true) (h : BRel F E v (b.ren ns)) : BRel F (E.ren ns) v b := by
  cases b with
  | box ty cs =>
    simp only [Blk.ren, BRel, Blk.lt] at h hl ⊢
    obtain ⟨g, arr, h1, h2, h3, h4⟩ := h
    exact ⟨g, arr, h1, h2, RL.ren _ _ hl h3, h4⟩
  | sl sz ty rows =>
    simp only [Blk.ren, BRel] at h ⊢
    rcases h with ⟨vs, hown, hRR, h1, hsz, hun, hF⟩ | h
    case inr => exact .inr h
    exact .inl ⟨vs, hown, RL.mono0 (E.ren_le0 ns) _ _ (fun c hc => by
      obtain ⟨r, hr, hcr⟩ := List.mem_flatten.1 hc
      exact (hun r hr).2 c hcr) hRR, h1, hsz, hun, hF⟩
  | slo sz ty rows =>
    simp only [Blk.ren, BRel, Blk.lt] at h hl ⊢
    have hl' : ∀ r ∈ rows, ltL ns.length r = true := by simpa using hl
    rcases h with ⟨vs, hown, hRR, h1, hsz, hun, hF⟩ | ⟨h1, h2⟩
    case inr => exact .inr ⟨by simpa using h1, h2⟩
    rw [List.length_map] at hown
    refine .inl ⟨vs, hown, RL.ren _ _ ?_ ?_, h1, hsz, fun r hr => ?_, hF⟩
    · exact ltL_flatten hl'
    · rw [renL_flatten]; exact hRR
    · have := hun (renL ns r) (List.mem_map.2 ⟨r, hr, rfl⟩)
      rw [renL_length] at this
      exact ⟨this.1, fun _ _ => trivial⟩
  | obj o => exact h
  | loop st pend fn tm nt ps assign body d => simp [Blk.lt] at hl
  | map ks vs =>
    simp only [Blk.ren, BRel, Blk.lt, Bool.and_eq_true] at h hl ⊢
    obtain ⟨g, arr, clk, h1, h2, h3, h4, h5⟩ := h
    exact ⟨g, arr, clk, h1, h2, RL.ren _ _ hl.1 h3, RL.ren _ _ hl.2 h4, h5⟩
theorem hpOk_get {ns : List Nat} {s : St} : ∀ {ms : List Nat} {bs : List Blk}, hpOk ns s ms bs → ms.length = bs.length ∧ ∀ (i : Nat) b, bs[i]? = some b → ∃ n, ms[i]? = some n ∧ b.lt ns.length = true ∧ s.hp n = some (b.ren ns)
  | [], [], _ => ⟨rfl, fun i b h => by simp at h⟩
  | [], _ :: _, h => by simp [hpOk] at h
  | _ :: _, [], h => by simp [hpOk] at h
  | n :: ms, b :: bs, h => by
    simp only [hpOk] at h
    obtain ⟨h1, h2⟩ := hpOk_get h.2
    refine ⟨by simp [h1], fun i c hc => ?_⟩
    cases i with
    | zero => simp at hc; subst hc; exact ⟨n, rfl, h.1⟩
    | succ i => simpa using h2 i c (by simpa using hc)
theorem HRel.renamed {F : Nat → Prop} {E : Env} {s : St} (H : HRel F E s.hp) {ns : List Nat} (hnd : ns.Nodup) {bs : List Blk} (hh : hpOk ns s ns bs) : HRel F (E.ren ns) (fun b => bs[b]?) := by
  obtain ⟨hlen, hg⟩ := hpOk_get hh
  refine ⟨fun b x hx => ?_, fun i j x y g hx hy hgx hgy => ?_⟩
  · obtain ⟨n, hn, hlt, hb⟩ := hg b x hx
    have hi : b < ns.length := (List.getElem?_eq_some_iff.1 hn).1
    refine ⟨hi, ?_⟩
    have h2 := (H.blk _ _ hb).2
    have e : (E.ren ns).σ b = E.σ n := by simp [Env.ren, List.getD_eq_getElem?_getD, hn]
    rw [e]
    exact BRel.ren hlt h2
  · obtain ⟨n, hn, _, hb⟩ := hg i x hx
    obtain ⟨m, hm, _, hc⟩ := hg j y hy
    have e1 : (E.ren ns).σ i = E.σ n := by simp [Env.ren, List.getD_eq_getElem?_getD, hn]
    have e2 : (E.ren ns).σ j = E.σ m := by simp [Env.ren, List.getD_eq_getElem?_getD, hm]
    rw [e1] at hgx
    rw [e2] at hgy
    have e := H.sep _ _ _ _ g hb hc hgx hgy
    subst e
    have hi := (List.getElem?_eq_some_iff.1 hn)
    have hj := (List.getElem?_eq_some_iff.1 hm)
    obtain ⟨hi1, hi2⟩ := hi
    obtain ⟨hj1, hj2⟩ := hj
    have hpw := List.pairwise_iff_getElem.1 hnd
    rcases Nat.lt_trichotomy i j with h | h | h
    · exact absurd (hi2.trans hj2.symm) (hpw i j hi1 hj1 h)
    · exact h
    · exact absurd (hj2.trans hi2.symm) (hpw j i hj1 hi1 h)

theorem ret_sound {r : Res} {fn : Func} (hs : CRel P X E a s) (h : RetOk P fn r s) :
    ∃ u, (results fn a.tmps).run P E.w = .ok u E.w ∧ ∃ E', E'.w = E.w ∧ (∀ b, E'.D b → b < r.bs.length) ∧ R E' r.v u ∧ HRel X.F E' r.hp ∧ (∀ g, E'.O g ↔ E.O g) := by
  obtain ⟨ns, hnd, hlt, hbs, hret⟩ := h
  cases hcv : retV P fn s with
  | none => rw [hcv] at hret; exact hret.elim
  | some cv =>
    rw [hcv] at hret
    obtain ⟨hc, hv⟩ := hret
    obtain ⟨u, hu, hR⟩ := retV_sound hs hcv hc
    rw [hv] at hR
    refine ⟨u, hu, E.ren ns, rfl, fun b hb => by rw [← (hpOk_get hbs).1]; exact hb, R.ren _ _ hlt hR, hs.hp.renamed hnd hbs, fun g => Iff.rfl⟩

/-- The marks of loops over functions are taken off. -/
theorem marks_sound {fn : Func} {Rr : Ending → World → Prop} {u : FrameMode} (hu : u ≠ .run) {w0 : World} : ∀ (df : List Nat) {E : Env} {a : Act} {s : St}, CRel P X E a s → s.df = df → df.Nodup → (∀ b ∈ df, s.hp b = some (.obj (.deferred (some [])))) → Ev X.F w0 E.w →
    (∀ E' s', E.le E' → (∀ b, E'.D b → E.D b) → CRel P X E' { tmps := a.tmps, defers := [] } s' → s'.tm = s.tm → s'.hp = s.unmark.hp → Ev X.F w0 E'.w → LeavesIn (FR none) 0 P fn a.tmps Rr [] u E'.w) → LeavesInM (FR none) 0 P fn a.tmps Rr a.defers u E.w
  | [], E, a, s, hs, hdf, _, _, hev, h => by
    have hd := hs.defers
    rw [hdf] at hd
    have hd' : a.defers = [] := hd
    rw [hd']
    refine h E s ⟨fun _ h => h, fun _ _ => rfl, Nat.le_refl _, fun _ _ h => ⟨rfl, h⟩⟩ (fun _ h => h) ⟨hs.toERel, hs.top, hs.kp, by rw [hdf]; rfl, hs.nt, hs.tm⟩ rfl ?_ hev
    funext b
    simp [St.unmark, hdf]
  | b :: df, E, a, s, hs, hdf, hnd, hb, hev, h => by
    have hd := hs.defers
    rw [hdf] at hd
    obtain ⟨g, ds', hds, ⟨hD, hσ⟩, hrest⟩ := hd
    rw [hds]
    have hbb := hb b (by simp)
    obtain ⟨_, g', hσ', hh, hnc, hF, hO⟩ := hs.hp.blk b _ hbb
    rw [hσ] at hσ'
    simp only [Value.pointer.injEq, Option.some.injEq, Addr.mk.injEq, and_true] at hσ'
    subst hσ'
    refine ⟨hu, .inl ⟨g, _, rfl, (by simp [Instr.takeDeferred, Sem.run_bind, getObj, setObj, Sem.run, hh, Result.andThen] : _ = Result.ok [] { E.w with heap := E.w.heap.setIfInBounds g (.deferred none) }), ?_⟩⟩
    have hgs : g < E.w.heap.size := (Array.getElem?_eq_some_iff.1 hh).1
    obtain ⟨hH, hle, hev1⟩ := hs.hp.write (b := b) (x' := .obj (.deferred none)) hbb (g := g) (by rw [hσ]; rfl) (w' := { E.w with heap := E.w.heap.setIfInBounds g (.deferred none) }) (by simp) (fun k hk => by simp [Array.getElem?_setIfInBounds, Ne.symm hk]) rfl rfl rfl (Nat.le_refl _)
      (by simp only [BRel]; exact ⟨g, hσ, by simp [hgs], rfl, hF, hO⟩)
    have hsub : HRel X.F { E with w := { E.w with heap := E.w.heap.setIfInBounds g (.deferred none) } } (upd s.hp b none) := by
      refine hH.sub fun b' x hx => ?_
      by_cases e : b' = b
      · subst e; simp [upd_same] at hx
      · rw [upd_other _ _ e] at hx ⊢; exact hx
    have hC : CRel P X { E with w := { E.w with heap := E.w.heap.setIfInBounds g (.deferred none) } } { tmps := a.tmps, defers := ds' } { s with hp := upd s.hp b none, df := df } := by
      refine ⟨⟨hsub, GOK.mono hle.le0 hs.gl, hs.AO, fun g hg => Nat.lt_of_lt_of_le (hs.Fz g hg) hle.size, hs.OA, fun g hg => Nat.lt_of_lt_of_le (hs.Oz g hg) hle.size⟩, hs.top, fun h => X.Km _ _ hle (hs.kp h), hrest.mono hle, hs.nt, fun t => R.mono hle _ _ (hs.tm t)⟩
    refine marks_sound hu df hC rfl (List.nodup_cons.1 hnd).2 (fun b' hb' => ?_) (hev.trans hev1) (fun E' s' hle' hD' hC' ht' hp' hev' => h E' s' (hle.trans hle') (fun b hb => hD' b hb) hC' ht' ?_ hev')
    · have hne : b' ≠ b := fun e => (List.nodup_cons.1 hnd).1 (e ▸ hb')
      show upd s.hp b none b' = _
      rw [upd_other _ _ hne]
      exact hb b' (by simp [hb'])
    · rw [hp']
      funext y
      simp only [St.unmark, hdf]
      by_cases e : y = b
      · subst e; simp [upd]
      · simp [upd, e]

theorem run_enter {f : FuncId} {fn : Func} (hf : P.funcs[f]? = some fn) (hn : fn.name ≠ "runtime.NumGoroutine") {c : Code} (hb : fn.body = some c) (args : Array Value) (w : World) : (callFunc f args).run P w = .ok (.enter f args) w := by
  have : (fn.name == "runtime.NumGoroutine") = false := by simpa using hn
  simp [callFunc, hf, hn, hb]

/-- A call, out of its body. -/
theorem called_of_W {f : FuncId} {fn : Func} {c : Code} {args : List V} (hf : P.funcs[f]? = some fn) (hn : fn.name ≠ "runtime.NumGoroutine") (hb : fn.body = some c) (hnt : args.length ≤ fn.ntmps)
    {s0 : St} {Q : AX → St → Prop} (h : W P c (s0.enter args fn.ntmps) Q) (hρ : X.ρ = none) (hK : X.K E) (hE : ERel P X.F X.A E s0) (hnx : ∀ b, E.D b → b < s0.nx) {vs : List Value} (hargs : RL E args vs)
    {Rv : Value → World → Prop} {Rx : List PanicEntry → World → Prop}
    (hret : ∀ x E' a' s', (x = .normal ∨ x = .ret) → SRel P X E' a' s' → Q x s' → Ev X.F E.w E'.w → LeavesInM (FR none) 0 P fn a'.tmps (endX Rv Rx) a'.defers .returning E'.w)
    (hpan : ∀ v u E' a' s', SRel P X E' a' s' → R E' v u → Q (.panic v) s' → Ev X.F E.w E'.w → LeavesInM (FR none) 0 P fn a'.tmps (endX Rv Rx) a'.defers (.panicking [{ v := u, recovered := false }]) E'.w)
    (hno : ∀ x s', (∀ v, x ≠ .panic v) → x ≠ .normal → x ≠ .ret → ¬ Q x s') :
    CalledX P f vs E.w Rv Rx := by
  unfold CalledX
  rw [run_enter hf hn hb]
  have hvl := hargs.length
  show Calls P f vs.toArray E.w (endX Rv Rx)
  refine (callsIn_wide (n := 0)).1 (callsIn_of_wp_marks (F := Fence.wide) (n := 0) hf hb trivial (wpIn_mono (Q := postA P X E.w Q) ?_ ?_))
  · have hh := h X E { tmps := vs.toArray ++ Array.replicate (fn.ntmps - vs.toArray.size) undef, defers := [] } ⟨⟨hE.cong rfl, fun _ => hρ, fun _ => hK, rfl, ?_, fun t => ?_⟩, hnx⟩
    · rw [hρ] at hh; exact hh
    · simp only [St.enter, Array.size_append, List.size_toArray, Array.size_replicate]
      omega
    · simp only [St.enter, initTm]
      by_cases ht : t < args.length
      · have h1 := hargs.get (List.getElem?_eq_getElem ht)
        obtain ⟨v, hv, hR⟩ := h1
        rw [List.getD_eq_getElem?_getD, List.getElem?_eq_getElem ht, Option.getD_some]
        have : (vs.toArray ++ Array.replicate (fn.ntmps - vs.toArray.size) undef).getD t undef = v := by
          rw [Array.getD_eq_getD_getElem?, Array.getElem?_append_left (by simp; omega)]
          simp [hv]
        rw [this]
        exact hR
      · rw [List.getD_eq_getElem?_getD, List.getElem?_eq_none (by omega), Option.getD_none]
        simp only [R]
  · rintro e a' w' ⟨E', s', x, rfl, hs, hx, hq, hev⟩
    cases x with
    | normal => obtain rfl : e = .normal := hx; exact hret _ E' a' s' (.inl rfl) hs hq hev
    | ret => obtain rfl : e = .ret := hx; exact hret _ E' a' s' (.inr rfl) hs hq hev
    | panic v => obtain ⟨u, rfl, hu⟩ := hx; exact hpan v u E' a' s' hs hu hq hev
    | exit i => exact absurd hq (hno _ _ (by simp) (by simp) (by simp))
    | goto i => exact absurd hq (hno _ _ (by simp) (by simp) (by simp))

theorem Runs.of_body {f : FuncId} {fn : Func} {c : Code} {args : List V} {r : Res} (hf : P.funcs[f]? = some fn) (hn : fn.name ≠ "runtime.NumGoroutine") (hb : fn.body = some c) (hnt : args.length ≤ fn.ntmps)
    (h : W P c (initSt args fn.ntmps) (retPost P fn r)) : Runs P f args r := by
  intro E vs hD hO hG hargs
  refine called_of_W (X := ⟨fun g => g < E.w.heap.size, E.O, none, fun _ => True, fun _ _ _ _ => trivial⟩) (s0 := initSt [] 0) hf hn hb hnt h rfl trivial ⟨⟨fun b x hx => by simp [initSt] at hx, fun b b' x x' g hx => by simp [initSt] at hx⟩, hG, fun g hg => ⟨hg, hO g hg⟩, fun g hg => hg, fun g hg _ => hg, hO⟩ (fun b hb => absurd hb (hD b)) hargs ?_ (fun v u E' a' s' _ _ hq _ => hq.elim) (fun x s' h1 h2 h3 hq => ?_)
  · intro x E' a' s' hx hs hq hev
    have hq' : marksOk s' ∧ RetOk P fn r s'.unmark := by rcases hx with rfl | rfl <;> exact hq
    obtain ⟨⟨m1, m2⟩, hr⟩ := hq'
    refine marks_sound (by simp) s'.df hs.toCRel rfl m1 m2 hev fun E2 s2 hle2 hD2 hC2 ht2 hp2 hev2 => ?_
    have hC3 : CRel P _ E2 { tmps := a'.tmps, defers := [] } s'.unmark := ⟨hC2.toERel.cong hp2.symm, hs.top, fun _ => trivial, rfl, hs.nt, fun t => by have := hC2.tm t; rw [ht2] at this; exact this⟩
    obtain ⟨u, hu, E'', ew, hD'', hR, hH, hO''⟩ := ret_sound hC3 hr
    refine ⟨u, hu, E'', ew, ⟨hD'', hR, hH, by rw [ew]; exact hev2, fun g hg => ?_, fun g hg => by rw [ew]; exact hC3.Oz g ((hO'' g).1 hg)⟩⟩
    rw [hO'']
    exact ⟨fun h => hC3.OA g h hg, fun h => (hC3.AO g h).1⟩
  · cases x <;> first | exact hq | exact absurd rfl h2 | exact absurd rfl h3 | exact absurd rfl (h1 _)

theorem CallW.of_body {f : FuncId} {fn : Func} {c : Code} {args : List V} {s : St} {K Xp : V → St → Prop} (hf : P.funcs[f]? = some fn) (hn : fn.name ≠ "runtime.NumGoroutine") (hb : fn.body = some c) (hnt : args.length ≤ fn.ntmps)
    (h : W P c (s.enter args fn.ntmps) (ctPost P fn K Xp)) : CallW P f s args K Xp := by
  intro F A E us hE hnx hargs
  refine called_of_W (X := ⟨F, A, none, fun E' => E.le E', fun _ _ h k => Env.le.trans k h⟩) hf hn hb hnt h rfl ⟨fun _ h => h, fun _ _ => rfl, Nat.le_refl _, fun _ _ h => ⟨rfl, h⟩⟩ hE hnx hargs ?_ ?_ (fun x s' h1 h2 h3 hq => ?_)
  · intro x E' a' s' hx hs hq hev
    have hq' : s'.kp = true ∧ marksOk s' ∧ ctV (fun v => K v s'.unmark) (retV P fn s'.unmark) := by rcases hx with rfl | rfl <;> exact hq
    obtain ⟨hk, ⟨m1, m2⟩, hr⟩ := hq'
    refine marks_sound (by simp) s'.df hs.toCRel rfl m1 m2 hev fun E2 s2 hle2 hD2 hC2 ht2 hp2 hev2 => ?_
    have hleE : E.le E2 := Env.le.trans (hs.kp hk) hle2
    have hC3 : CRel P _ E2 { tmps := a'.tmps, defers := [] } s'.unmark := ⟨hC2.toERel.cong hp2.symm, hs.top, fun _ => hleE, rfl, hs.nt, fun t => by have := hC2.tm t; rw [ht2] at this; exact this⟩
    cases hcv : retV P fn s'.unmark with
    | none => rw [hcv] at hr; exact hr.elim
    | some cv =>
      rw [hcv] at hr
      obtain ⟨u, hu, hR⟩ := retV_sound hC3 hcv hr.1
      exact ⟨u, hu, E2, s'.unmark, cv.2, rfl, hleE, hC3.toERel, fun b hb => hs.nx b (hD2 b hb), hR, hr.2, hev2⟩
  · intro v u E' a' s' hs hu hq hev
    obtain ⟨hk, hdf, hX⟩ := hq
    have hd := hs.defers
    rw [hdf] at hd
    have hd' : a'.defers = [] := hd
    rw [hd']
    exact ⟨E', s', v, u, rfl, hs.kp hk, hs.toERel, hs.nx, rfl, hu, hX, hev⟩
  · cases x <;> first | exact hq | exact absurd rfl h2 | exact absurd rfl h3 | exact absurd rfl (h1 _)
end
end Go.Proofs.YtbnjijffkjcmcaaDoor.AL
namespace Go.Proofs.YtbnjijffkjcmcaaDoor.AL
open Go
/-! ### Regions that draw their order -/
/-- In a region that draws its order no contract serves. -/
def Tab.q (T : Tab) : Tab := { R := T.R, C := fun _ => none, Y := none }
theorem Tab.q_ok {P : Program} [Gl P] {T : Tab} (h : T.ok P) : T.q.ok P := ⟨h.R, fun _ _ h => by simp [Tab.q] at h, fun _ h => by simp [Tab.q] at h⟩
/-- A quiet operation's value and new blocks. -/
def aval (P : Program) (T : Tab) (op : Op) (nm : Nat) (hv : Nat → Option Blk) (e : Operand → V) : Option (Prop × V × List Blk) :=
  match op with
  | .store _ _ _ => none
  | .mapUpdate _ _ _ _ => none
  | .panic _ => none
  | .call c => match c.callee with
    | .value f => match e f with
      | .fn g fi caps =>
        match T.R g (fi ++ (c.args.toList.map fun x => (e x).exp hv) ++ caps) with
        | none => none
        | some r => some (r.bs.length ≤ 8 ∧ (cleanL (fi ++ (c.args.toList.map fun x => (e x).exp hv) ++ caps) = true) ∧
            (cleanL (fi ++ (c.args.toList.map e) ++ caps) = true ∨ (r.v.closed = true ∧ ∀ x ∈ r.bs, x.closed)), r.v.sh nm, r.bs.map (Blk.sh nm))
      | _ => none
    | .builtin .append => none
    | _ => match qf P hv e (.call c) with
      | .val c v => some (c, v, [])
      | _ => none
  | op => match qf P hv e op with
    | .val c v => some (c, v, [])
    | .new c x => some (c, newV nm x, [x])
    | .bad => none
def quietOp (op : Op) : Bool :=
  match op with
  | .store _ _ _ => false
  | .mapUpdate _ _ _ _ => false
  | .panic _ => false
  | .call c => match c.callee with
    | .builtin .append => false
    | _ => true
  | _ => true
def St.app (s : St) (dst : Option Tmp) (v : V) (nm : Nat) (bs : List Blk) : St := ({ s with hp := putHp s.hp nm bs } : St).put dst v
def noX : V → St → Prop := fun _ _ => False
/-- A step where the order is drawn. -/
def AStep (P : Program) [Gl P] (T : Tab) (ops : Array Oper) (o : Oper) (nm : Nat) (hv : Nat → Option Blk) (K : St → Prop) (s : St) : Prop :=
  gStep ops o s (orK (opR P T.q o.dst nm hv s o.op) o.dst s K noX) (dstOk s o.dst ∧ K (s.put o.dst (.tup [])))

section
variable {P : Program} [Gl P] {T : Tab} {s : St} {ops : Array Oper} {o : Oper} {nm : Nat} {hv : Nat → Option Blk} {K : St → Prop}
theorem val_iff {d c : Prop} {v : V} {dst : Option Tmp} : ((d ∧ c) ∧ K (s.put dst v)) ↔ d ∧ ∃ c' v' bs, some (c, v, ([] : List Blk)) = some (c', v', bs) ∧ c' ∧ K (s.app dst v' nm bs) := by
  simp only [Option.some.injEq, Prod.mk.injEq]
  constructor
  · rintro ⟨⟨h0, h1⟩, h2⟩; exact ⟨h0, _, _, _, ⟨rfl, rfl, rfl⟩, h1, h2⟩
  · rintro ⟨h0, _, _, _, ⟨rfl, rfl, rfl⟩, h1, h2⟩; exact ⟨⟨h0, h1⟩, h2⟩
theorem bad_iff {d : Prop} {dst : Option Tmp} : False ↔ d ∧ ∃ c' v' bs, (none : Option (Prop × V × List Blk)) = some (c', v', bs) ∧ c' ∧ K (s.app dst v' nm bs) := by simp
theorem op_quiet (hq : quietOp o.op = true) : orK (opR P T.q o.dst nm hv s o.op) o.dst s K noX ↔ dstOk s o.dst ∧ ∃ c v bs, aval P T o.op nm hv (ev P s) = some (c, v, bs) ∧ c ∧ K (s.app o.dst v nm bs) := by
  cases hop : o.op with
  | store t p x => rw [hop] at hq; simp [quietOp] at hq
  | mapUpdate t m k x => rw [hop] at hq; simp [quietOp] at hq
  | panic x => rw [hop] at hq; simp [quietOp] at hq
  | call c =>
    rw [hop] at hq
    simp only [aval, opR]
    cases hcal : c.callee with
    | value f =>
      simp only
      cases ev P s f with
      | fn g fi caps =>
        simp only [orF, Tab.q, orFC]
        cases T.R g (fi ++ (c.args.toList.map fun x => (ev P s x).exp hv) ++ caps) with
        | none => simp [orC, orK]
        | some r =>
          simp only [orC, orK, Option.some.injEq, Prod.mk.injEq, St.app]
          constructor
          · rintro ⟨⟨h0, h1, h2, h3⟩, h4⟩
            exact ⟨h0, _, _, _, ⟨rfl, rfl, rfl⟩, ⟨h1, h2, h3⟩, h4⟩
          · rintro ⟨h0, _, _, _, ⟨rfl, rfl, rfl⟩, ⟨h1, h2, h3⟩, h4⟩
            exact ⟨⟨h0, h1, h2, h3⟩, h4⟩
      | yld b => simp [orF, Tab.q, orY, orK]
      | _ => simp [orF, orK]
    | invoke r m =>
      simp only
      cases qf P hv (ev P s) (.call c)
      · exact val_iff
      · exact bad_iff
      · exact bad_iff
    | builtin b =>
      cases b <;> first
        | (simp [quietOp, hcal] at hq; done)
        | (simp only
           cases qf P hv (ev P s) (.call c)
           · exact val_iff
           · exact bad_iff
           · exact bad_iff)
  | _ =>
    simp only [aval, opR]
    split
    · rename_i c v hqf
      simp only [hqf, orQ]
      exact val_iff
    · rename_i c x hqf
      simp only [hqf, orQ, orK, Option.some.injEq, Prod.mk.injEq, St.app, putHp]
      constructor
      · rintro ⟨⟨h0, h1⟩, h2⟩; exact ⟨h0, _, _, _, ⟨rfl, rfl, rfl⟩, h1, h2⟩
      · rintro ⟨h0, _, _, _, ⟨rfl, rfl, rfl⟩, h1, h2⟩; exact ⟨⟨h0, h1⟩, h2⟩
    · rename_i hqf
      simp [hqf, orQ, orK]
end
theorem qf_congr (P : Program) (hv : Nat → Option Blk) {e e' : Operand → V} (op : Op) (h : ∀ x ∈ op.operands, e x = e' x) : qf P hv e op = qf P hv e' op := by
  have pairs : ∀ ps : Array (Nat × Operand), (∀ x ∈ (ps.toList.map (·.2)).toArray, e x = e' x) →
      (ps.toList.map fun p => (p.1, e p.2)) = (ps.toList.map fun p => (p.1, e' p.2)) ∧ (ps.toList.map fun p => (e p.2).cells) = (ps.toList.map fun p => (e' p.2).cells) := fun ps hp => by
    have : ∀ p ∈ ps.toList, e p.2 = e' p.2 := fun p hm => hp p.2 (by simpa using ⟨p.1, by simpa using hm⟩)
    exact ⟨List.map_congr_left fun p hm => by rw [this p hm], List.map_congr_left fun p hm => by rw [this p hm]⟩
  cases op <;> simp only [Op.operands] at h <;> simp only [qf]
  case build t ps => rw [(pairs ps h).1]
  case buildSlice t n ps =>
    obtain ⟨h1, h2⟩ := pairs ps h
    rw [h1, h2]
  case makeFunc fn first caps =>
    have h1 : caps.toList.map e = caps.toList.map e' := List.map_congr_left fun x hx => h x (by simp; exact .inr (by simpa using hx))
    have h2 : first.toList.map e = first.toList.map e' := List.map_congr_left fun x hx => h x (by simp; exact .inl (by simpa using hx))
    rw [h1, h2]
  case call c =>
    obtain ⟨callee, args, tys⟩ := c
    simp only
    cases callee <;> try rfl
    rename_i b
    cases b <;> try rfl
    · simp only
      split
      · rename_i x hx
        have : e x = e' x := h x (by simp only [Call.operands]; rw [← Array.toArray_toList (xs := args), hx]; simp)
        rw [this]
      · rfl
    all_goals
      simp only
      split
      · rename_i x l hx
        have ha : ∀ y ∈ x :: l, e y = e' y := fun y hy => h y (by simp only [Call.operands]; rw [← Array.toArray_toList (xs := args), hx]; simp at hy ⊢; exact hy)
        rw [ha x (by simp), List.map_congr_left (fun y hy => ha y (by simp [hy]))]
      · rfl
  case slice t x lo hi mx => cases lo <;> cases hi <;> cases mx <;> simp_all
  all_goals (first | rfl | (simp_all; done))

theorem aval_congr {P : Program} {T : Tab} {nm : Nat} (hv : Nat → Option Blk) {e e' : Operand → V} (op : Op) (h : ∀ x ∈ op.operands, e x = e' x) : aval P T op nm hv e = aval P T op nm hv e' := by
  cases op with
  | store t p x => rfl
  | mapUpdate t m k x => rfl
  | panic x => rfl
  | call c =>
    simp only [aval]
    have hq := qf_congr P hv (.call c) h
    simp only [Op.operands, Call.operands] at h
    cases hcal : c.callee with
    | value f =>
      rw [hcal] at h
      have hf : e f = e' f := h f (by simp)
      have ha : ∀ x ∈ c.args.toList, e x = e' x := fun x hx => h x (by simp; exact .inr (by simpa using hx))
      have h1 : (c.args.toList.map fun x => (e x).exp hv) = c.args.toList.map fun x => (e' x).exp hv := List.map_congr_left fun x hx => by rw [ha x hx]
      have h2 : c.args.toList.map e = c.args.toList.map e' := List.map_congr_left ha
      simp only [hf, h1, h2]
    | invoke r m => simp only [hq]
    | builtin b => cases b <;> simp only [hq]
  | _ => simp only [aval]; rw [qf_congr P hv _ h]

/-- A quiet operation, its guard looked at: value and new blocks. -/
def ares (P : Program) [Gl P] (T : Tab) (ops : Array Oper) (o : Oper) (nm : Nat) (hv : Nat → Option Blk) (s : St) : Option (Prop × V × List Blk) :=
  match o.guard with
  | none => aval P T o.op nm hv (ev P s)
  | some (j, want) => match gval ops s j want with
    | some b => if b = true then aval P T o.op nm hv (ev P s) else some (True, .tup [], [])
    | none => none
theorem AStep_quiet {P : Program} [Gl P] {T : Tab} {s : St} {ops : Array Oper} {o : Oper} {nm : Nat} {hv : Nat → Option Blk} {K : St → Prop} (hq : quietOp o.op = true) :
    AStep P T ops o nm hv K s ↔ ∃ c v bs, ares P T ops o nm hv s = some (c, v, bs) ∧ dstOk s o.dst ∧ c ∧ K (s.app o.dst v nm bs) := by
  unfold AStep ares gStep
  cases o.guard with
  | none =>
    simp only
    rw [op_quiet hq]
    constructor
    · rintro ⟨h1, c, v, bs, h2, h3, h4⟩; exact ⟨c, v, bs, h2, h1, h3, h4⟩
    · rintro ⟨c, v, bs, h2, h1, h3, h4⟩; exact ⟨h1, c, v, bs, h2, h3, h4⟩
  | some jw =>
    obtain ⟨j, want⟩ := jw
    simp only
    cases gval ops s j want with
    | none => simp
    | some b =>
      simp only
      by_cases hb : b = true
      · simp only [hb, if_true]
        rw [op_quiet hq]
        constructor
        · rintro ⟨h1, c, v, bs, h2, h3, h4⟩; exact ⟨c, v, bs, h2, h1, h3, h4⟩
        · rintro ⟨c, v, bs, h2, h1, h3, h4⟩; exact ⟨h1, c, v, bs, h2, h3, h4⟩
      · simp only [if_neg hb, Option.some.injEq, Prod.mk.injEq]
        constructor
        · rintro ⟨h1, h2⟩; exact ⟨_, _, _, ⟨rfl, rfl, rfl⟩, h1, trivial, h2⟩
        · rintro ⟨_, _, _, ⟨rfl, rfl, rfl⟩, h1, _, h2⟩; exact ⟨h1, h2⟩
theorem aval_len {P : Program} {T : Tab} {op : Op} {nm : Nat} {hv : Nat → Option Blk} {e : Operand → V} {c : Prop} {v : V} {bs : List Blk} (h : aval P T op nm hv e = some (c, v, bs)) (hc : c) : bs.length ≤ 8 := by
  unfold aval at h
  split at h
  · exact absurd h (by simp)
  · exact absurd h (by simp)
  · exact absurd h (by simp)
  · split at h
    · split at h
      · split at h
        · exact absurd h (by simp)
        · simp only [Option.some.injEq, Prod.mk.injEq] at h
          obtain ⟨rfl, rfl, rfl⟩ := h
          simpa using hc.1
      · exact absurd h (by simp)
    · exact absurd h (by simp)
    · split at h
      · simp only [Option.some.injEq, Prod.mk.injEq] at h
        obtain ⟨rfl, rfl, rfl⟩ := h
        simp
      · exact absurd h (by simp)
  · split at h
    · simp only [Option.some.injEq, Prod.mk.injEq] at h
      obtain ⟨rfl, rfl, rfl⟩ := h
      simp
    · simp only [Option.some.injEq, Prod.mk.injEq] at h
      obtain ⟨rfl, rfl, rfl⟩ := h
      simp
    · exact absurd h (by simp)
theorem ares_len {P : Program} [Gl P] {T : Tab} {ops : Array Oper} {o : Oper} {nm : Nat} {hv : Nat → Option Blk} {s : St} {c : Prop} {v : V} {bs : List Blk} (h : ares P T ops o nm hv s = some (c, v, bs)) (hc : c) : bs.length ≤ 8 := by
  unfold ares at h
  split at h
  · exact aval_len h hc
  · split at h
    · split at h
      · exact aval_len h hc
      · simp only [Option.some.injEq, Prod.mk.injEq] at h
        obtain ⟨rfl, rfl, rfl⟩ := h
        simp
    · exact absurd h (by simp)

/-- What operation k may see of the heap: what was there, and what it waits for. -/
def hidO (C k b : Nat) : Bool := C.testBit (64 + k) && C.testBit (128 + b)
def vis (B : Array Nat) (C base k : Nat) (hp : Nat → Option Blk) : Nat → Option Blk := fun b => if (if b < base then !hidO C k b else (B.getD k 0).testBit ((b - base) / 8)) = true then hp b else none
theorem vis_sub {B : Array Nat} {C base k : Nat} {hp : Nat → Option Blk} : ∀ b x, vis B C base k hp b = some x → hp b = some x := by
  intro b x h
  unfold vis at h
  split at h
  · split at h
    · exact h
    · exact absurd h (by simp)
  · split at h
    · exact h
    · exact absurd h (by simp)
theorem vis_put {B : Array Nat} {C base k i : Nat} {hp : Nat → Option Blk} {bs : List Blk} (hbs : bs.length ≤ 8) (hw : (B.getD k 0).testBit i = false) : vis B C base k (putHp hp (base + 8 * i) bs) = vis B C base k hp := by
  funext b
  unfold vis
  by_cases h : (if b < base then !hidO C k b else (B.getD k 0).testBit ((b - base) / 8)) = true
  · rw [if_pos h, if_pos h]
    apply putHp_other
    by_cases hlt : b < base
    · left; omega
    · rw [if_neg hlt] at h
      by_cases hb : b < base + 8 * i
      · exact .inl hb
      · right
        by_cases hb2 : base + 8 * i + 8 ≤ b
        · omega
        · exfalso
          have : (b - base) / 8 = i := by omega
          rw [this, hw] at h
          exact absurd h (by simp)
  · rw [if_neg h, if_neg h]
theorem putHp_comm {hp : Nat → Option Blk} {n m : Nat} {xs ys : List Blk} (h : n + xs.length ≤ m ∨ m + ys.length ≤ n) : putHp (putHp hp n xs) m ys = putHp (putHp hp m ys) n xs := by
  funext b
  by_cases h1 : b < n ∨ n + xs.length ≤ b
  · rw [putHp_other xs n (putHp hp m ys) b h1]
    by_cases h2 : b < m ∨ m + ys.length ≤ b
    · rw [putHp_other ys m _ b h2, putHp_other xs n _ b h1, putHp_other ys m _ b h2]
    · obtain ⟨i, hi, rfl⟩ : ∃ i, i < ys.length ∧ b = m + i := ⟨b - m, by omega, by omega⟩
      rw [putHp_at ys m _ i hi, putHp_at ys m _ i hi]
  · obtain ⟨i, hi, rfl⟩ : ∃ i, i < xs.length ∧ b = n + i := ⟨b - n, by omega, by omega⟩
    rw [putHp_at xs n _ i hi, putHp_other ys m _ _ (by omega), putHp_at xs n _ i hi]
theorem upd_comm {α : Type} (f : Nat → α) {n m : Nat} (x y : α) (h : n ≠ m) : upd (upd f n x) m y = upd (upd f m y) n x := by
  funext b
  unfold upd
  by_cases h1 : b = n
  · subst h1; simp [h]
  · by_cases h2 : b = m
    · subst h2; simp [Ne.symm h]
    · simp [h1, h2]
theorem St.app_comm (s : St) {d d' : Option Tmp} {v v' : V} {n m : Nat} {xs ys : List Blk} (hd : ∀ t, d = some t → d' ≠ some t) (h : n + xs.length ≤ m ∨ m + ys.length ≤ n) :
    (s.app d v n xs).app d' v' m ys = (s.app d' v' m ys).app d v n xs := by
  have hc := putHp_comm (hp := s.hp) h
  cases d with
  | none => cases d' <;> simp only [St.app, St.put, hc]
  | some t =>
    cases d' with
    | none => simp only [St.app, St.put, hc]
    | some t' =>
      have : t ≠ t' := fun e => hd t rfl (by rw [e])
      simp only [St.app, St.put, hc, upd_comm s.tm v v' this]
theorem ev_app {P : Program} [Gl P] {s : St} {d : Option Tmp} {v : V} {n : Nat} {bs : List Blk} {x : Operand} (h : ∀ t, d = some t → x ≠ .tmp t) : ev P (s.app d v n bs) x = ev P s x := by
  cases x with
  | tmp t =>
    cases d with
    | none => rfl
    | some t' =>
      have : t ≠ t' := fun e => h t' rfl (by rw [e])
      simp [ev, St.app, St.put, upd, this]
  | _ => rfl
theorem ares_app {P : Program} [Gl P] {T : Tab} {ops : Array Oper} {B : Array Nat} {C base k i : Nat} {o : Oper} {s : St} {d : Option Tmp} {v : V} {bs : List Blk} (hd : ∀ t, d = some t → t ∉ o.looksAt ops) (hbs : bs.length ≤ 8) (hw : (B.getD k 0).testBit i = false) :
    ares P T ops o (base + 8 * k) (vis B C base k (s.app d v (base + 8 * i) bs).hp) (s.app d v (base + 8 * i) bs) = ares P T ops o (base + 8 * k) (vis B C base k s.hp) s := by
  have hhp : (s.app d v (base + 8 * i) bs).hp = putHp s.hp (base + 8 * i) bs := by cases d <;> rfl
  rw [hhp, vis_put hbs hw]
  have hev : ∀ x ∈ o.op.operands, ev P (s.app d v (base + 8 * i) bs) x = ev P s x := fun x hx => ev_app fun t ht hxt => hd t ht (by
    subst hxt
    exact List.mem_append_left _ (List.mem_filterMap.2 ⟨.tmp t, by simpa using hx, rfl⟩))
  unfold ares
  cases hg : o.guard with
  | none => simp only; exact aval_congr _ _ hev
  | some jw =>
    obtain ⟨j, want⟩ := jw
    simp only
    have : gval ops (s.app d v (base + 8 * i) bs) j want = gval ops s j want := by
      unfold gval
      cases ht : (ops[j]?).bind (·.dst) with
      | none => rfl
      | some t =>
        simp only
        have hne : ∀ t', d = some t' → t ≠ t' := fun t' hd' e => hd t' hd' (by subst e; simp [Oper.looksAt, hg, ht])
        cases d with
        | none => rfl
        | some t' => simp [St.app, St.put, upd, hne t' rfl]
    rw [this, aval_congr _ _ hev]
end Go.Proofs.YtbnjijffkjcmcaaDoor.AL
namespace Go.Proofs.YtbnjijffkjcmcaaDoor.AL
open Go

section
variable {P : Program} [Gl P] {T : Tab} {ops : Array Oper} {B : Array Nat}
/-- An operation that all the others of its region come before or after (the table's last cell tells which). -/
def isCut (ops : Array Oper) (B : Array Nat) (k : Nat) : Bool := (B.getD ops.size 0).testBit k
/-- A step in the text's order. -/
def CStep0 (P : Program) [Gl P] (T : Tab) (ops : Array Oper) (o : Oper) (K : St → Prop) (s : St) : Prop :=
  gStep ops o s (orT (opR P T o.dst s.nx s.hp s o.op) o.dst s K noX) (dstOk s o.dst ∧ K (s.put o.dst (.tup [])))
/-- What an operation touches is hidden from those that are told. -/
def hidP (B : Array Nat) (C size base k : Nat) (b : Nat) : Prop :=
  ∀ j, j < size → (B.getD (size + 1 + k) 0).testBit j = true → (base ≤ b ∧ (b - base) / 8 ≠ j ∧ (B.getD j 0).testBit ((b - base) / 8) = false) ∨ (b < base ∧ hidO C j b = true)
def hcR (hid : Nat → Prop) : OR → Prop
  | .store _ b _ => hid b
  | .grow _ b _ _ => hid b
  | _ => True
def HC (P : Program) [Gl P] (T : Tab) (ops : Array Oper) (o : Oper) (nm : Nat) (hv : Nat → Option Blk) (hid : Nat → Prop) (s : St) : Prop :=
  match o.guard with
  | none => hcR hid (opR P T.q o.dst nm hv s o.op)
  | some (j, want) => match gval ops s j want with
    | some true => hcR hid (opR P T.q o.dst nm hv s o.op)
    | _ => True
def CStep (P : Program) [Gl P] (T : Tab) (ops : Array Oper) (o : Oper) (K : St → Prop) (s : St) : Prop := ∃ K' : St → Prop, (∀ s', K' s' → K s') ∧ CStep0 P T ops o K' s
def AStepI (P : Program) [Gl P] (T : Tab) (ops : Array Oper) (B : Array Nat) (i : Nat) (K : St → Prop) (s : St) : Prop :=
  match ops[i]? with
  | none => K s
  | some o => if isCut ops B i = true then CStep P T ops o K (s.setN (s.nx + 8 * ops.size)) else AStep P T ops o (s.nx + 8 * i) (vis B (B.getD ops.size 0) s.nx i s.hp) K s ∧ HC P T ops o (s.nx + 8 * i) (vis B (B.getD ops.size 0) s.nx i s.hp) (hidP B (B.getD ops.size 0) ops.size s.nx i) s
def aAny (P : Program) [Gl P] (T : Tab) (ops : Array Oper) (B : Array Nat) (Q : St → Prop) : Nat → Array Bool → St → Prop
  | 0, listed, s => Region.ready .any ops listed = [] ∧ Q s
  | fuel + 1, listed, s => (Region.ready .any ops listed = [] → Q s) ∧ ∀ i ∈ Region.ready .any ops listed, AStepI P T ops B i (aAny P T ops B Q fuel (listed.setIfInBounds i true)) s
/-- The lexical order, each operation seeing what it waits for. -/
def WLex (P : Program) [Gl P] (T : Tab) (ops : Array Oper) (B : Array Nat) (C : Nat) (Q : St → Prop) : Nat → List Oper → St → Prop
  | _, [], s => Q s
  | k, o :: rest, s => if C.testBit k = true then CStep0 P T ops o (WLex P T ops B C Q (k + 1) rest) (s.setN (s.nx + 8 * ops.size)) else AStep P T ops o (s.nx + 8 * k) (vis B C s.nx k s.hp) (WLex P T ops B C Q (k + 1) rest) s ∧ HC P T ops o (s.nx + 8 * k) (vis B C s.nx k s.hp) (hidP B C ops.size s.nx k) s

/-- Whatever has come up, what it waits for has come up. -/
def Closed (B : Array Nat) (listed : Array Bool) : Prop := ∀ j, listed.getD j false = true → ∀ k, (B.getD j 0).testBit k = true → listed.getD k false = true
/-- The table tells no more than the edges do. -/
def masksOk (ops : Array Oper) (B : Array Nat) : Bool :=
  (List.range ops.size).all fun j => match ops[j]? with
    | none => true
    | some o => (B.getD j 0) == (B.getD j 0) &&& (o.after.foldl (fun s e => if Region.binds .any e then s ||| 2 ^ e.on ||| B.getD e.on 0 else s) 0)
theorem foldl_bits (B : Array Nat) (k : Nat) : ∀ (l : List Edge) (s0 : Nat), (l.foldl (fun s e => if Region.binds .any e then s ||| 2 ^ e.on ||| B.getD e.on 0 else s) s0).testBit k = true →
    s0.testBit k = true ∨ ∃ e ∈ l, Region.binds .any e = true ∧ (e.on = k ∨ (B.getD e.on 0).testBit k = true)
  | [], s0, h => .inl h
  | e :: l, s0, h => by
    simp only [List.foldl_cons] at h
    rcases foldl_bits B k l _ h with h1 | ⟨e', he', h1⟩
    · split at h1
      · rename_i hb
        simp only [Nat.testBit_or, Bool.or_eq_true] at h1
        rcases h1 with (h1 | h1) | h1
        · exact .inl h1
        · rw [Nat.testBit_two_pow] at h1
          exact .inr ⟨e, by simp, hb, .inl (by simpa using h1)⟩
        · exact .inr ⟨e, by simp, hb, .inr h1⟩
      · exact .inl h1
    · exact .inr ⟨e', by simp [he'], h1⟩
theorem ready_waits (hB : masksOk ops B = true) {listed : Array Bool} (hc : Closed B listed) {j : Nat} (hj : j ∈ Region.ready .any ops listed) {k : Nat} (hk : (B.getD j 0).testBit k = true) : listed.getD k false = true := by
  obtain ⟨_, o, ho, hall⟩ := mem_ready.1 hj
  have hlt : j < ops.size := (Array.getElem?_eq_some_iff.1 ho).1
  have h1 := List.all_eq_true.1 hB j (List.mem_range.2 hlt)
  simp only [ho, beq_iff_eq] at h1
  rw [h1, Nat.testBit_and, Bool.and_eq_true] at hk
  have h2 := hk.2
  rw [← Array.foldl_toList] at h2
  rcases foldl_bits B k o.after.toList 0 h2 with h3 | ⟨e, he, hb, h3⟩
  · simp at h3
  · have hl := hall e (by simpa using he) hb
    rcases h3 with rfl | h3
    · exact hl
    · exact hc e.on hl k h3
theorem Closed.set (hB : masksOk ops B = true) {listed : Array Bool} (hc : Closed B listed) {i : Nat} (hi : i ∈ Region.ready .any ops listed) : Closed B (listed.setIfInBounds i true) := by
  intro j hj k hk
  by_cases hji : i = j
  · subst hji
    exact getD_set_true (ready_waits hB hc hi hk)
  · rw [getD_set_ne false hji] at hj
    exact getD_set_true (hc j hj k hk)

theorem orK_mono {r : OR} {dst : Option Tmp} {K K' : St → Prop} {s : St} (h : ∀ s, K s → K' s) (hp : ∀ c f, r ≠ .ctr c f) {X : V → St → Prop} (hh : orK r dst s K X) : orK r dst s K' X := by
  cases r <;> simp only [orK] at hh ⊢ <;> first | exact ⟨hh.1, h _ hh.2⟩ | exact hh | exact absurd rfl (hp _ _)
theorem opR_q {o : Oper} {nm : Nat} {hv : Nat → Option Blk} {s : St} : ∀ c f, opR P T.q o.dst nm hv s o.op ≠ .ctr c f := by
  intro c f
  cases o.op with
  | store t p x => simp only [opR]; cases lstore P hv (ev P s) t p x <;> simp [orL]
  | mapUpdate t m k x => simp only [opR]; cases lmap P hv (ev P s) t m k x <;> simp [orL]
  | panic x => simp only [opR]; cases ev P s x <;> simp [orP]
  | call cl =>
    simp only [opR]
    cases cl.callee with
    | value fv =>
      simp only
      cases ev P s fv <;> simp [orF, Tab.q, orFC, orY]
      rename_i g fi caps
      cases T.R g (fi ++ (cl.args.toList.map (fun x => (ev P s x).exp hv) ++ caps)) <;> simp [orC]
    | invoke r m => simp only; cases qf P hv (ev P s) (.call cl) <;> simp [orV]
    | builtin bi =>
      have app : ∀ d el n x so sr c f, orA P d el n hv x so sr ≠ .ctr c f := by
        intro d el n x so sr c f
        unfold orA
        (repeat' split) <;> simp
      cases bi <;> simp only <;> first
        | (cases qf P hv (ev P s) (.call cl) <;> simp [orV]; done)
        | (split
           · split
             · split
               · exact app _ _ _ _ _ _ _ _
               · simp
             · simp
           · simp)
  | _ => simp only [opR]; generalize qf P hv (ev P s) _ = q; cases q <;> simp [orQ]
theorem AStep_mono {o : Oper} {nm : Nat} {hv : Nat → Option Blk} {K K' : St → Prop} {s : St} (h : ∀ s, K s → K' s) (hh : AStep P T ops o nm hv K s) : AStep P T ops o nm hv K' s := by
  unfold AStep gStep at hh ⊢
  split at hh
  · exact orK_mono h opR_q hh
  · split at hh
    · split at hh
      · rename_i hb; rw [if_pos hb]; exact orK_mono h opR_q hh
      · rename_i hb; rw [if_neg hb]; exact ⟨hh.1, h _ hh.2⟩
    · exact hh.elim
theorem AStepI_mono {i : Nat} {K K' : St → Prop} {s : St} (h : ∀ s, K s → K' s) (hh : AStepI P T ops B i K s) : AStepI P T ops B i K' s := by
  unfold AStepI at hh ⊢
  split at hh
  · exact h _ hh
  · split at hh
    · rename_i hc
      rw [if_pos hc]
      obtain ⟨K1, h1, h2⟩ := hh
      exact ⟨K1, fun s' hs' => h _ (h1 _ hs'), h2⟩
    · rename_i hc
      rw [if_neg hc]
      exact ⟨AStep_mono h hh.1, hh.2⟩

/-! #### Two operations change places -/
theorem St.put_put (s : St) {d d' : Option Tmp} (v v' : V) (h : ∀ t, d = some t → d' ≠ some t) : (s.put d v).put d' v' = (s.put d' v').put d v := by
  cases d with
  | none => cases d' <;> rfl
  | some t =>
    cases d' with
    | none => rfl
    | some t' =>
      have hne : t ≠ t' := fun e => h t rfl (by rw [e])
      simp only [St.put, upd_comm s.tm v v' hne]
theorem St.put_setB' (s : St) (d : Option Tmp) (v : V) (b : Nat) (x : Blk) : (s.put d v).setB b x = (s.setB b x).put d v := by cases d <;> rfl
theorem St.put_rmB' (s : St) (d : Option Tmp) (v : V) (b : Nat) : (s.put d v).rmB b = (s.rmB b).put d v := by cases d <;> rfl
theorem St.put_putB' (s : St) (d : Option Tmp) (v : V) (n : Nat) (bs : List Blk) : (s.put d v).putB n bs = (s.putB n bs).put d v := by cases d <;> rfl
theorem orK_put {r : OR} (hr : ∀ c f, r ≠ .ctr c f) {d d' : Option Tmp} {s : St} {v : V} {K : St → Prop} (h : ∀ t, d = some t → d' ≠ some t) : orK r d' (s.put d v) K noX ↔ orK r d' s (fun s' => K (s'.put d v)) noX := by
  cases r with
  | ctr c f => exact absurd rfl (hr _ _)
  | val c w => simp only [orK]; rw [St.put_put s v w h]
  | new c n b w => simp only [orK]; rw [St.put_setB', St.put_put _ v w h]
  | store c b x => simp only [orK]; rw [St.put_setB', St.put_put _ v _ h]
  | grow c b n x => simp only [orK]; rw [St.put_rmB', St.put_setB', St.put_put _ v _ h]
  | call c n bs w => simp only [orK]; rw [St.put_putB', St.put_put _ v _ h]
  | panic c w => simp only [orK, noX]
  | bad => exact Iff.rfl
theorem St.put_same (s : St) (d : Option Tmp) (v : V) : (∀ t, d ≠ some t → (s.put d v).tm t = s.tm t) ∧ (s.put d v).nt = s.nt ∧ (s.put d v).nx = s.nx := by
  cases d with
  | none => exact ⟨fun _ _ => rfl, rfl, rfl⟩
  | some t => exact ⟨fun t' h => by simp only [St.put, upd]; rw [if_neg (fun e => h (by rw [e]))], rfl, rfl⟩
theorem orK_keep {r : OR} (hr : ∀ c f, r ≠ .ctr c f) {d : Option Tmp} {s : St} {K : St → Prop} (h : orK r d s K noX) :
    orK r d s (fun s' => K s' ∧ (∀ t, d ≠ some t → s'.tm t = s.tm t) ∧ s'.nt = s.nt ∧ s'.nx = s.nx) noX := by
  cases r with
  | ctr c f => exact absurd rfl (hr _ _)
  | val c w => exact ⟨h.1, h.2, s.put_same d w⟩
  | new c n b w => exact ⟨h.1, h.2, (s.setB n b).put_same d w⟩
  | store c b x => exact ⟨h.1, h.2, (s.setB b x).put_same d _⟩
  | grow c b n x => exact ⟨h.1, h.2, ((s.rmB b).setB n x).put_same d _⟩
  | call c n bs w => exact ⟨h.1, h.2, (s.putB n bs).put_same d w⟩
  | panic c w => exact h
  | bad => exact h
theorem orK_ex {r : OR} (hr : ∀ c f, r ≠ .ctr c f) {d : Option Tmp} {s : St} {K : St → Prop} (h : orK r d s K noX) : ∃ s', K s' := by
  cases r with
  | ctr c f => exact absurd rfl (hr _ _)
  | panic c w => exact h.2.elim
  | bad => exact h.elim
  | _ => exact ⟨_, h.2⟩
theorem opR_congr {d : Option Tmp} {n : Nat} {hv : Nat → Option Blk} {s s' : St} (op : Op) (he : ∀ x ∈ op.operands, ev P s x = ev P s' x) (hd : dstOk s d = dstOk s' d) : opR P T.q d n hv s op = opR P T.q d n hv s' op := by
  have hq := qf_congr P hv op he
  cases op with
  | store t p x =>
    simp only [Op.operands] at he
    simp only [opR, lstore, he p (by simp), he x (by simp), hd]
  | mapUpdate t m k x =>
    simp only [Op.operands] at he
    simp only [opR, lmap, he m (by simp), he k (by simp), he x (by simp), hd]
  | panic x =>
    simp only [Op.operands] at he
    simp only [opR, he x (by simp)]
  | call c =>
    simp only [Op.operands, Call.operands] at he
    simp only [opR]
    cases hcal : c.callee with
    | value f =>
      rw [hcal] at he
      have hf : ev P s f = ev P s' f := he f (by simp)
      have ha : ∀ x ∈ c.args.toList, ev P s x = ev P s' x := fun x hx => he x (by simp; exact .inr (by simpa using hx))
      have h1 : (c.args.toList.map fun x => (ev P s x).exp hv) = c.args.toList.map fun x => (ev P s' x).exp hv := List.map_congr_left fun x hx => by rw [ha x hx]
      have h2 : c.args.toList.map (ev P s) = c.args.toList.map (ev P s') := List.map_congr_left ha
      simp only [hf, h1, h2, hd]
      cases ev P s' f <;> rfl
    | invoke r m => simp only [hq, hd]
    | builtin b =>
      cases b with
      | append =>
        rw [hcal] at he
        simp only
        split
        · rename_i x y hxy
          have ha : ∀ z ∈ [x, y], ev P s z = ev P s' z := fun z hz => he z (by simp; rw [← Array.mem_toList_iff, hxy]; exact hz)
          simp only [ha x (by simp), ha y (by simp), hd]
        · rfl
      | _ => simp only [hq, hd]
  | _ => simp only [opR, hq, hd]
theorem gval_put {s : St} {d : Option Tmp} {v : V} {o : Oper} {j : Nat} {want : Bool} (hg : o.guard = some (j, want)) (h : ∀ t, d = some t → t ∉ o.looksAt ops) {w : Bool} : gval ops (s.put d v) j w = gval ops s j w := by
  unfold gval
  cases ht : (ops[j]?).bind (·.dst) with
  | none => rfl
  | some t =>
    simp only
    rw [(s.put_same d v).1 t (fun e => h t e (by simp [Oper.looksAt, hg, ht]))]
theorem ev_put {s : St} {d : Option Tmp} {v : V} {x : Operand} (h : ∀ t, d = some t → x ≠ .tmp t) : ev P (s.put d v) x = ev P s x := by
  cases x with
  | tmp t => exact (s.put_same d v).1 t (fun e => h t e rfl)
  | _ => rfl
theorem looks_operand {o : Oper} {d : Option Tmp} (h : ∀ t, d = some t → t ∉ o.looksAt ops) {x : Operand} (hx : x ∈ o.op.operands) : ∀ t, d = some t → x ≠ .tmp t := by
  intro t ht e
  subst e
  exact h t ht (by
    simp only [Oper.looksAt, List.mem_append, List.mem_filterMap]
    exact .inl ⟨.tmp t, by simpa using hx, rfl⟩)
theorem AStep_put {o : Oper} {n : Nat} {hv : Nat → Option Blk} {s : St} {d : Option Tmp} {v : V} {K : St → Prop} (h : ∀ t, d = some t → t ∉ o.looksAt ops) (hd : ∀ t, d = some t → o.dst ≠ some t) :
    AStep P T ops o n hv K (s.put d v) ↔ AStep P T ops o n hv (fun s' => K (s'.put d v)) s := by
  have e1 : opR P T.q o.dst n hv (s.put d v) o.op = opR P T.q o.dst n hv s o.op := opR_congr o.op (fun x hx => ev_put (looks_operand h hx)) (by cases o.dst <;> simp only [dstOk, (s.put_same d v).2.1])
  have e2 : dstOk (s.put d v) o.dst = dstOk s o.dst := by cases o.dst <;> simp only [dstOk, (s.put_same d v).2.1]
  unfold AStep gStep
  cases hg : o.guard with
  | none => simp only; rw [e1]; exact orK_put opR_q hd
  | some jw =>
    obtain ⟨j, want⟩ := jw
    simp only
    rw [gval_put hg h]
    cases gval ops s j want with
    | none => exact Iff.rfl
    | some b =>
      cases b with
      | true => simp only [if_true]; rw [e1]; exact orK_put opR_q hd
      | false => simp only [Bool.false_eq_true, if_false]; rw [e2, St.put_put s v _ hd]
theorem AStep_keep {o : Oper} {n : Nat} {hv : Nat → Option Blk} {s : St} {K : St → Prop} (h : AStep P T ops o n hv K s) :
    AStep P T ops o n hv (fun s' => K s' ∧ (∀ t, o.dst ≠ some t → s'.tm t = s.tm t) ∧ s'.nt = s.nt ∧ s'.nx = s.nx) s := by
  unfold AStep gStep at h ⊢
  split at h
  · exact orK_keep opR_q h
  · split at h
    · split at h
      · rename_i hb; rw [if_pos hb]; exact orK_keep opR_q h
      · rename_i hb; rw [if_neg hb]; exact ⟨h.1, h.2, s.put_same _ _⟩
    · exact h.elim
theorem AStep_ex {o : Oper} {n : Nat} {hv : Nat → Option Blk} {s : St} {K : St → Prop} (h : AStep P T ops o n hv K s) : ∃ s', K s' := by
  unfold AStep gStep at h
  split at h
  · exact orK_ex opR_q h
  · split at h
    · split at h
      · exact orK_ex opR_q h
      · exact ⟨_, h.2⟩
    · exact h.elim
theorem CStep_ex {o : Oper} {s : St} {K : St → Prop} (h : CStep P T ops o K s) (hq : ∀ c f, opR P T o.dst s.nx s.hp s o.op ≠ .ctr c f) : ∃ s', K s' := by
  obtain ⟨K', hK, h⟩ := h
  have key : ∀ r : OR, (∀ c f, r ≠ .ctr c f) → orT r o.dst s K' noX → ∃ s', K' s' := by
    intro r hr h
    cases r with
    | ctr c f => exact absurd rfl (hr _ _)
    | panic c w => exact h.2.elim
    | bad => exact h.elim
    | _ => exact ⟨_, h.2⟩
  unfold CStep0 gStep at h
  have : ∃ s', K' s' := by
    split at h
    · exact key _ hq h
    · split at h
      · split at h
        · exact key _ hq h
        · exact ⟨_, h.2⟩
      · exact h.elim
  obtain ⟨s', h'⟩ := this
  exact ⟨s', hK _ h'⟩
/-- An operation that looks at temporaries alone. -/
def pureOp (P : Program) : Op → Bool
  | .convert src _ _ => !byteSl P src
  | .move _ | .assign _ | .pick _ _ _ | .binOp _ _ _ _ _ | .unOp _ _ _ | .extract _ _ | .fieldAddr _ _ _ | .field _ _ _ | .slice _ _ _ _ none | .index _ _ _ => true
  | _ => false
theorem pure_quiet {op : Op} (h : pureOp P op = true) : quietOp op = true := by cases op <;> first | rfl | simp [pureOp] at h
theorem qbin_val {op : BinOp} {t : TypeId} {nc : Bool} {x y : V} {c : Prop} {b : Blk} : qbin P op t nc x y ≠ .new c b := by
  intro h
  unfold qbin ibin sbin nilQ at h
  (repeat' split at h) <;> cases h
theorem qf_conv {src dst : TypeId} {x : Operand} {hv hv' : Nat → Option Blk} {e : Operand → V} (h : byteSl P src = false) : qf P hv e (.convert src dst x) = qf P hv' e (.convert src dst x) := by
  have key : ∀ hw : Nat → Option Blk, qf P hw e (.convert src dst x) = qf P (fun _ => none) e (.convert src dst x) := by
    intro hw
    simp only [qf, qbytes, h, Bool.false_eq_true, if_false]
    cases P.underlying src with
    | none => rfl
    | some d =>
      cases P.underlying dst with
      | none => rfl
      | some d2 =>
        cases d2 <;> try rfl
        cases e x <;> try rfl
        dsimp only
        split <;> rfl
  rw [key hv, key hv']
theorem pure_aval {op : Op} (h : pureOp P op = true) {n n' : Nat} {hv hv' : Nat → Option Blk} {e : Operand → V} {r : Prop × V × List Blk} (hr : aval P T op n hv e = some r) : r.2.2 = [] ∧ aval P T op n' hv' e = some r := by
  have hq : qf P hv e op = qf P hv' e op := by
    cases op <;> first | rfl | (simp [pureOp] at h; done) | skip
    exact qf_conv (by simpa [pureOp] using h)
  have hn : ∀ c b, qf P hv e op ≠ .new c b := by
    intro c b hh
    cases op <;> simp only [pureOp, Bool.false_eq_true] at h <;> simp only [qf] at hh
    case convert => (repeat' split at hh) <;> first | (cases hh; done) | (unfold qbytes at hh; split at hh <;> cases hh)
    case binOp => exact qbin_val hh
    case slice xt x lo hi mx =>
      cases mx with
      | some m => simp [pureOp] at h
      | none =>
        dsimp only at hh
        (repeat' split at hh) <;> cases hh
    case unOp => unfold qun at hh; repeat (split at hh <;> try (first | (cases hh; done) | skip))
    all_goals (repeat (split at hh <;> try (first | (cases hh; done) | (unfold loadV at hh; repeat (split at hh <;> try (first | (cases hh; done) | skip))) | skip)))
    all_goals (cases hh)
  have e1 : ∀ m hw, aval P T op m hw e = match qf P hw e op with
    | .val c v => some (c, v, [])
    | .new c x => some (c, newV m x, [x])
    | .bad => none := by
      intro m hw
      cases op <;> first | rfl | simp [pureOp] at h
  rw [e1] at hr ⊢
  rw [← hq]
  cases hqq : qf P hv e op with
  | val c v => rw [hqq] at hr; cases hr; exact ⟨rfl, rfl⟩
  | new c b => exact absurd hqq (hn c b)
  | bad => rw [hqq] at hr; cases hr
theorem pure_ares {o : Oper} (h : pureOp P o.op = true) {n n' : Nat} {hv hv' : Nat → Option Blk} {s s' : St} (hs : ∀ t ∈ o.looksAt ops, s'.tm t = s.tm t) {r : Prop × V × List Blk} (hr : ares P T ops o n hv s = some r) :
    r.2.2 = [] ∧ ares P T ops o n' hv' s' = some r := by
  have hev : ∀ x ∈ o.op.operands, ev P s x = ev P s' x := by
    intro x hx
    cases x with
    | tmp t => exact (hs t (by
        simp only [Oper.looksAt, List.mem_append, List.mem_filterMap]
        exact .inl ⟨.tmp t, by simpa using hx, rfl⟩)).symm
    | _ => rfl
  have hgv : ∀ j want w, o.guard = some (j, want) → gval ops s' j w = gval ops s j w := by
    intro j want w hg
    unfold gval
    cases ht : (ops[j]?).bind (·.dst) with
    | none => rfl
    | some t => simp only; rw [hs t (by simp [Oper.looksAt, hg, ht])]
  unfold ares at hr ⊢
  cases hg : o.guard with
  | none =>
    rw [hg] at hr
    simp only at hr ⊢
    rw [← aval_congr hv' o.op hev]
    exact pure_aval h hr
  | some jw =>
    obtain ⟨j, want⟩ := jw
    rw [hg] at hr
    simp only at hr ⊢
    rw [hgv j want want hg]
    cases hgg : gval ops s j want with
    | none => rw [hgg] at hr; cases hr
    | some b =>
      rw [hgg] at hr
      cases b with
      | true =>
        simp only [if_true] at hr ⊢
        rw [← aval_congr hv' o.op hev]
        exact pure_aval h hr
      | false =>
        simp only [Bool.false_eq_true, if_false] at hr ⊢
        cases hr; exact ⟨rfl, rfl⟩
/-- May the two change places? -/
def swapOk (P : Program) (ops : Array Oper) (x y : Oper) : Bool := x.apart ops y && ((quietOp x.op && quietOp y.op) || pureOp P x.op || pureOp P y.op)
theorem St.app_nil (s : St) (d : Option Tmp) (v : V) (n : Nat) : s.app d v n [] = s.put d v := by cases d <;> rfl
theorem dst_app (s : St) (d d' : Option Tmp) (v : V) (n : Nat) (bs : List Blk) : dstOk (s.app d v n bs) d' ↔ dstOk s d' := by cases d <;> cases d' <;> exact Iff.rfl
theorem app_nx (s : St) (d : Option Tmp) (v : V) (n : Nat) (bs : List Blk) : (s.app d v n bs).nx = s.nx := by cases d <;> rfl
theorem AStep_swap {i j : Nat} (hij : i ≠ j) {oi oj : Oper} {C base : Nat} {s : St} {K : St → Prop} (hbase : s.nx = base) (hok : swapOk P ops oi oj = true) (hwji : (B.getD j 0).testBit i = false) (hwij : (B.getD i 0).testBit j = false)
    (H : AStep P T ops oi (base + 8 * i) (vis B C base i s.hp) (fun s1 => AStep P T ops oj (s1.nx + 8 * j) (vis B C s1.nx j s1.hp) K s1) s) :
    AStep P T ops oj (base + 8 * j) (vis B C base j s.hp) (fun s2 => AStep P T ops oi (s2.nx + 8 * i) (vis B C s2.nx i s2.hp) K s2) s := by
  simp only [swapOk, Bool.and_eq_true, Bool.or_eq_true] at hok
  obtain ⟨hap, hk⟩ := hok
  obtain ⟨ap1, ap2, ap3⟩ := Oper.apart_spec hap
  rcases hk with (⟨hqi, hqj⟩ | hpi) | hpj
  · rw [AStep_quiet hqi] at H
    obtain ⟨ci, vi, bi, hri, hdi, hci, hK⟩ := H
    have hli := ares_len hri hci
    rw [app_nx, hbase, AStep_quiet hqj] at hK
    obtain ⟨cj, vj, bj, hrj, hdj, hcj, hKj⟩ := hK
    rw [ares_app (fun t ht => ap1 t ht) hli hwji] at hrj
    have hlj := ares_len hrj hcj
    rw [AStep_quiet hqj]
    refine ⟨cj, vj, bj, hrj, (dst_app ..).1 hdj, hcj, ?_⟩
    rw [app_nx, hbase, AStep_quiet hqi]
    refine ⟨ci, vi, bi, ?_, (dst_app ..).2 hdi, hci, ?_⟩
    · rw [ares_app (fun t ht => ap3 t ht) hlj hwij]; exact hri
    · rw [← St.app_comm s (d := oi.dst) (d' := oj.dst) (fun t ht => ap2 t ht) (by
        rcases Nat.lt_or_gt_of_ne hij with h | h
        · left; omega
        · right; omega)]
      exact hKj
  · rw [AStep_quiet (pure_quiet hpi)] at H
    obtain ⟨ci, vi, bi, hri, hdi, hci, hK⟩ := H
    obtain ⟨hb, _⟩ := pure_ares (n' := 0) (hv' := fun _ => none) (s' := s) hpi (fun _ _ => rfl) hri
    simp only at hb
    subst hb
    rw [St.app_nil] at hK
    have hnx : (s.put oi.dst vi).nx = base := ((s.put_same _ _).2.2).trans hbase
    have hhp : (s.put oi.dst vi).hp = s.hp := by cases oi.dst <;> rfl
    rw [hnx, hhp, AStep_put ap1 ap2] at hK
    refine AStep_mono ?_ (AStep_keep hK)
    rintro s2 ⟨h1, h2, h3, h4⟩
    obtain ⟨_, hri2⟩ := pure_ares (n' := s2.nx + 8 * i) (hv' := vis B C s2.nx i s2.hp) (s' := s2) hpi (fun t ht => h2 t (fun e => ap3 t e ht)) hri
    rw [AStep_quiet (pure_quiet hpi)]
    exact ⟨ci, vi, [], hri2, by cases hd : oi.dst <;> rw [hd] at hdi <;> simp only [dstOk] at hdi ⊢; rw [h3]; exact hdi, hci, by rw [St.app_nil]; exact h1⟩
  · have H2 := AStep_keep H
    obtain ⟨s1, h1, h2, h3, h4⟩ := AStep_ex H2
    rw [AStep_quiet (pure_quiet hpj)] at h1
    obtain ⟨cj, vj, bj, hrj, hdj, hcj, _⟩ := h1
    obtain ⟨hb, hrs⟩ := pure_ares (n' := base + 8 * j) (hv' := vis B C base j s.hp) (s' := s) hpj (fun t ht => (h2 t (fun e => ap1 t e ht)).symm) hrj
    simp only at hb
    subst hb
    rw [AStep_quiet (pure_quiet hpj)]
    refine ⟨cj, vj, [], hrs, by cases hd : oj.dst <;> rw [hd] at hdj <;> simp only [dstOk] at hdj ⊢; rw [← h3]; exact hdj, hcj, ?_⟩
    rw [St.app_nil]
    have hnx : (s.put oj.dst vj).nx = base := ((s.put_same _ _).2.2).trans hbase
    have hhp : (s.put oj.dst vj).hp = s.hp := by cases oj.dst <;> rfl
    rw [hnx, hhp, AStep_put ap3 (fun t ht e => ap2 t e ht)]
    refine AStep_mono ?_ H2
    rintro s2 ⟨g1, g2, g3, g4⟩
    rw [AStep_quiet (pure_quiet hpj)] at g1
    obtain ⟨c', v', b', hr', _, _, hK'⟩ := g1
    obtain ⟨hb', hr2⟩ := pure_ares (n' := base + 8 * j) (hv' := vis B C base j s.hp) (s' := s) hpj (fun t ht => (g2 t (fun e => ap1 t e ht)).symm) hr'
    rw [hrs] at hr2
    cases hr2
    rw [St.app_nil] at hK'
    exact hK'

/-! #### Effects as data -/
def tset (hp : Nat → Option Blk) : Option (Nat × Option Blk) → (Nat → Option Blk)
  | none => hp
  | some (b, y) => upd hp b y
def St.appE (s : St) (d : Option Tmp) (v : V) (n : Nat) (bs : List Blk) (t : Option (Nat × Option Blk)) : St := ({ s with hp := putHp (tset s.hp t) n bs } : St).put d v
def eres : OR → Option (Prop × V × Option (Nat × Option Blk) × List Blk)
  | .val c v => some (c, v, none, [])
  | .new c _ b v => some (c, v, none, [b])
  | .store c b x => some (c, .junk, some (b, some x), [])
  | .grow c b n x => some (c, .own n, some (b, none), [x])
  | .call c _ bs v => some (c, v, none, bs)
  | _ => none
/-- The name of what is new. -/
def orNm (n : Nat) : OR → Prop
  | .new _ m _ _ => m = n
  | .grow _ _ m _ => m = n
  | .call c m bs _ => m = n ∧ (c → bs.length ≤ 8)
  | _ => True
theorem opR_nm {d : Option Tmp} {n : Nat} {hv : Nat → Option Blk} {s : St} (op : Op) : orNm n (opR P T.q d n hv s op) := by
  have hq : ∀ d q, orNm n (orQ d n q) := fun d q => by cases q <;> simp [orQ, orNm]
  have hv' : ∀ d q, orNm n (orV d q) := fun d q => by cases q <;> simp [orV, orNm]
  have hc : ∀ d x y r, orNm n (orC d n x y r) := fun d x y r => by
    cases r with
    | none => simp [orC, orNm]
    | some r => exact ⟨rfl, fun h => by simpa using h.2.1⟩
  have ha : ∀ d el x so sr, orNm n (orA P d el n hv x so sr) := fun d el x so sr => by
    unfold orA
    (repeat' split) <;> simp [orNm]
  cases op with
  | store t p x => simp only [opR]; cases lstore P hv (ev P s) t p x <;> simp [orL, orNm]
  | mapUpdate t m k x => simp only [opR]; cases lmap P hv (ev P s) t m k x <;> simp [orL, orNm]
  | panic x => simp only [opR]; cases ev P s x <;> simp [orP, orNm]
  | call cl =>
    simp only [opR]
    cases cl.callee with
    | value fv =>
      simp only
      cases ev P s fv <;> first | exact hc _ _ _ _ | trivial
    | invoke r m => exact hv' _ _
    | builtin bi =>
      cases bi <;> simp only <;> first
        | exact hv' _ _
        | (split
           · split
             · split
               · exact ha _ _ _ _ _
               · simp [orNm]
             · simp [orNm]
           · simp [orNm])
  | _ => simp only [opR]; exact hq _ _
theorem orK_data {r : OR} {n : Nat} (hn : orNm n r) (hr : ∀ c f, r ≠ .ctr c f) {d : Option Tmp} {s : St} {K : St → Prop} : orK r d s K noX ↔ ∃ c v t bs, eres r = some (c, v, t, bs) ∧ c ∧ K (s.appE d v n bs t) := by
  cases r with
  | ctr c f => exact absurd rfl (hr _ _)
  | panic c v => simp [orK, eres, noX]
  | bad => simp [orK, eres]
  | val c v => exact ⟨fun h => ⟨c, v, none, [], rfl, h.1, h.2⟩, by rintro ⟨_, _, _, _, h, h1, h2⟩; cases h; exact ⟨h1, h2⟩⟩
  | new c m b v => obtain rfl : m = n := hn; exact ⟨fun h => ⟨c, v, none, [b], rfl, h.1, h.2⟩, by rintro ⟨_, _, _, _, h, h1, h2⟩; cases h; exact ⟨h1, h2⟩⟩
  | store c b x => exact ⟨fun h => ⟨c, .junk, some (b, some x), [], rfl, h.1, h.2⟩, by rintro ⟨_, _, _, _, h, h1, h2⟩; cases h; exact ⟨h1, h2⟩⟩
  | grow c b m x => obtain rfl : m = n := hn; exact ⟨fun h => ⟨c, .own m, some (b, none), [x], rfl, h.1, h.2⟩, by rintro ⟨_, _, _, _, h, h1, h2⟩; cases h; exact ⟨h1, h2⟩⟩
  | call c m bs v => obtain rfl : m = n := hn.1; exact ⟨fun h => ⟨c, v, none, bs, rfl, h.1, h.2⟩, by rintro ⟨_, _, _, _, h, h1, h2⟩; cases h; exact ⟨h1, h2⟩⟩
theorem eres_len {r : OR} {n : Nat} (hn : orNm n r) {c : Prop} {v : V} {t : Option (Nat × Option Blk)} {bs : List Blk} (h : eres r = some (c, v, t, bs)) (hc : c) : bs.length ≤ 8 := by
  cases r <;> simp only [eres, reduceCtorEq, Option.some.injEq, Prod.mk.injEq] at h
  all_goals (obtain ⟨rfl, rfl, rfl, rfl⟩ := h)
  case call => exact hn.2 hc
  all_goals simp
/-- An operation's effect, its guard looked at. -/
def lres (P : Program) [Gl P] (T : Tab) (ops : Array Oper) (o : Oper) (nm : Nat) (hv : Nat → Option Blk) (s : St) : Option (Prop × V × Option (Nat × Option Blk) × List Blk) :=
  match o.guard with
  | none => eres (opR P T.q o.dst nm hv s o.op)
  | some (j, want) => match gval ops s j want with
    | some b => if b = true then eres (opR P T.q o.dst nm hv s o.op) else some (dstOk s o.dst, .tup [], none, [])
    | none => none
theorem AStep_data {o : Oper} {nm : Nat} {hv : Nat → Option Blk} {K : St → Prop} {s : St} :
    AStep P T ops o nm hv K s ↔ ∃ c v t bs, lres P T ops o nm hv s = some (c, v, t, bs) ∧ c ∧ K (s.appE o.dst v nm bs t) := by
  unfold AStep lres gStep
  cases o.guard with
  | none => exact orK_data (opR_nm _) opR_q
  | some jw =>
    obtain ⟨j, want⟩ := jw
    simp only
    cases gval ops s j want with
    | none => simp
    | some b =>
      cases b with
      | true => simp only [if_true]; exact orK_data (opR_nm _) opR_q
      | false =>
        simp only [Bool.false_eq_true, if_false]
        exact ⟨fun h => ⟨_, _, _, _, rfl, h.1, h.2⟩, by rintro ⟨_, _, _, _, h, h1, h2⟩; cases h; exact ⟨h1, h2⟩⟩
theorem lres_len {o : Oper} {nm : Nat} {hv : Nat → Option Blk} {s : St} {c : Prop} {v : V} {t : Option (Nat × Option Blk)} {bs : List Blk} (h : lres P T ops o nm hv s = some (c, v, t, bs)) (hc : c) : bs.length ≤ 8 := by
  unfold lres at h
  split at h
  · exact eres_len (opR_nm _) h hc
  · split at h
    · split at h
      · exact eres_len (opR_nm _) h hc
      · simp only [Option.some.injEq, Prod.mk.injEq] at h; obtain ⟨_, _, _, rfl⟩ := h; simp
    · cases h
theorem appE_keep (s : St) (d : Option Tmp) (v : V) (n : Nat) (bs : List Blk) (t : Option (Nat × Option Blk)) : (∀ x, d ≠ some x → (s.appE d v n bs t).tm x = s.tm x) ∧ (s.appE d v n bs t).nt = s.nt ∧ (s.appE d v n bs t).nx = s.nx ∧ (s.appE d v n bs t).hp = putHp (tset s.hp t) n bs := by
  have h := ({ s with hp := putHp (tset s.hp t) n bs } : St).put_same d v
  exact ⟨h.1, h.2.1, h.2.2, by cases d <;> rfl⟩
/-- The same answers in a state that differs where the operation does not look. -/
theorem looks_congr {o : Oper} {s s' : St} (hs : ∀ t ∈ o.looksAt ops, s'.tm t = s.tm t) (hnt : s'.nt = s.nt) {nm : Nat} {hv : Nat → Option Blk} :
    opR P T.q o.dst nm hv s' o.op = opR P T.q o.dst nm hv s o.op ∧ (∀ j want w, o.guard = some (j, want) → gval ops s' j w = gval ops s j w) ∧ dstOk s' o.dst = dstOk s o.dst := by
  have hd : dstOk s' o.dst = dstOk s o.dst := by cases o.dst <;> simp only [dstOk, hnt]
  refine ⟨opR_congr o.op (fun x hx => ?_) hd, fun j want w hg => ?_, hd⟩
  · cases x with
    | tmp t => exact hs t (by
        simp only [Oper.looksAt, List.mem_append, List.mem_filterMap]
        exact .inl ⟨.tmp t, by simpa using hx, rfl⟩)
    | _ => rfl
  · unfold gval
    cases ht : (ops[j]?).bind (·.dst) with
    | none => rfl
    | some t => simp only; rw [hs t (by simp [Oper.looksAt, hg, ht])]
theorem lres_congr {o : Oper} {s s' : St} (hs : ∀ t ∈ o.looksAt ops, s'.tm t = s.tm t) (hnt : s'.nt = s.nt) {nm : Nat} {hv : Nat → Option Blk} : lres P T ops o nm hv s' = lres P T ops o nm hv s := by
  obtain ⟨h1, h2, h3⟩ := looks_congr (P := P) (T := T) (ops := ops) hs hnt (nm := nm) (hv := hv)
  unfold lres
  cases hg : o.guard with
  | none => simp only; rw [h1]
  | some jw => obtain ⟨j, want⟩ := jw; simp only; rw [h1, h2 j want want hg, h3]
theorem HC_congr {o : Oper} {s s' : St} (hs : ∀ t ∈ o.looksAt ops, s'.tm t = s.tm t) (hnt : s'.nt = s.nt) {nm : Nat} {hv : Nat → Option Blk} {hid : Nat → Prop} : HC P T ops o nm hv hid s' = HC P T ops o nm hv hid s := by
  obtain ⟨h1, h2, h3⟩ := looks_congr (P := P) (T := T) (ops := ops) hs hnt (nm := nm) (hv := hv)
  unfold HC
  cases hg : o.guard with
  | none => simp only; rw [h1]
  | some jw => obtain ⟨j, want⟩ := jw; simp only; rw [h1, h2 j want want hg]
/-- What is touched is hidden. -/
theorem HC_touch {o : Oper} {nm : Nat} {hv : Nat → Option Blk} {hid : Nat → Prop} {s : St} (h : HC P T ops o nm hv hid s) {c : Prop} {v : V} {b : Nat} {y : Option Blk} {bs : List Blk} (hl : lres P T ops o nm hv s = some (c, v, some (b, y), bs)) : hid b := by
  have key : ∀ r : OR, hcR hid r → eres r = some (c, v, some (b, y), bs) → hid b := by
    intro r hr he
    cases r <;> simp only [eres, reduceCtorEq, Option.some.injEq, Prod.mk.injEq, false_and, and_false] at he
    · obtain ⟨_, _, ⟨rfl, _⟩, _⟩ := he; exact hr
    · obtain ⟨_, _, ⟨rfl, _⟩, _⟩ := he; exact hr
  unfold HC at h
  unfold lres at hl
  split at hl
  · rename_i hg; rw [hg] at h; exact key _ h hl
  · rename_i j want hg
    rw [hg] at h
    simp only at h
    split at hl
    · rename_i w hw
      rw [hw] at h
      split at hl
      · rename_i hb; subst hb; exact key _ h hl
      · simp at hl
    · cases hl
theorem quiet_lres {o : Oper} (hq : quietOp o.op = true) {nm : Nat} {hv : Nat → Option Blk} {s : St} {c : Prop} {v : V} {t : Option (Nat × Option Blk)} {bs : List Blk} (hl : lres P T ops o nm hv s = some (c, v, t, bs)) : t = none := by
  have key : eres (opR P T.q o.dst nm hv s o.op) = some (c, v, t, bs) → t = none := by
    intro he
    have h1 : ∀ c' b' x', opR P T.q o.dst nm hv s o.op ≠ .store c' b' x' := by
      intro c' b' x' e
      cases ho : o.op with
      | store => rw [ho] at hq; cases hq
      | mapUpdate => rw [ho] at hq; cases hq
      | panic x => rw [ho] at hq; cases hq
      | call cl =>
        rw [ho] at hq e
        simp only [opR] at e
        cases hcal : cl.callee with
        | value fv =>
          rw [hcal] at e
          simp only at e
          cases hf : ev P s fv <;> rw [hf] at e <;> simp only [orF, Tab.q, orFC, orY, reduceCtorEq] at e
          rename_i g fi caps
          cases hTR : T.R g (fi ++ cl.args.toList.map (fun x => (ev P s x).exp hv) ++ caps) <;> rw [hTR] at e <;> simp [orC] at e
        | invoke r m => rw [hcal] at e; simp only at e; cases hqf : qf P hv (ev P s) (.call cl) <;> rw [hqf] at e <;> simp [orV] at e
        | builtin bi =>
          rw [hcal] at e
          simp only [quietOp, hcal] at hq
          cases bi <;> simp only [Bool.false_eq_true] at hq <;> simp only at e <;> (cases hqf : qf P hv (ev P s) (.call cl) <;> rw [hqf] at e <;> simp [orV] at e)
      | _ => rw [ho] at e; simp only [opR] at e; revert e; generalize qf P hv (ev P s) _ = q; intro e; cases q <;> simp [orQ] at e
    have h2 : ∀ c' b' n' x', opR P T.q o.dst nm hv s o.op ≠ .grow c' b' n' x' := by
      intro c' b' n' x' e
      cases ho : o.op with
      | store => rw [ho] at hq; cases hq
      | mapUpdate => rw [ho] at hq; cases hq
      | panic x => rw [ho] at hq; cases hq
      | call cl =>
        rw [ho] at hq e
        simp only [opR] at e
        cases hcal : cl.callee with
        | value fv =>
          rw [hcal] at e
          simp only at e
          cases hf : ev P s fv <;> rw [hf] at e <;> simp only [orF, Tab.q, orFC, orY, reduceCtorEq] at e
          rename_i g fi caps
          cases hTR : T.R g (fi ++ cl.args.toList.map (fun x => (ev P s x).exp hv) ++ caps) <;> rw [hTR] at e <;> simp [orC] at e
        | invoke r m => rw [hcal] at e; simp only at e; cases hqf : qf P hv (ev P s) (.call cl) <;> rw [hqf] at e <;> simp [orV] at e
        | builtin bi =>
          rw [hcal] at e
          simp only [quietOp, hcal] at hq
          cases bi <;> simp only [Bool.false_eq_true] at hq <;> simp only at e <;> (cases hqf : qf P hv (ev P s) (.call cl) <;> rw [hqf] at e <;> simp [orV] at e)
      | _ => rw [ho] at e; simp only [opR] at e; revert e; generalize qf P hv (ev P s) _ = q; intro e; cases q <;> simp [orQ] at e
    cases hr : opR P T.q o.dst nm hv s o.op <;> rw [hr] at he <;> simp only [eres, reduceCtorEq, Option.some.injEq, Prod.mk.injEq] at he
    · exact he.2.2.1.symm
    · exact he.2.2.1.symm
    · exact absurd hr (h1 _ _ _)
    · exact absurd hr (h2 _ _ _ _)
    · exact he.2.2.1.symm
  unfold lres at hl
  split at hl
  · exact key hl
  · split at hl
    · split at hl
      · exact key hl
      · simp only [Option.some.injEq, Prod.mk.injEq] at hl; exact hl.2.2.1.symm
    · cases hl
theorem HC_quiet {o : Oper} (hq : quietOp o.op = true) {nm : Nat} {hv : Nat → Option Blk} {hid : Nat → Prop} {s : St} : HC P T ops o nm hv hid s := by
  have key : hcR hid (opR P T.q o.dst nm hv s o.op) := by
    cases hr : opR P T.q o.dst nm hv s o.op with
    | store c b x =>
      have := quiet_lres (ops := ops) (o := { o with guard := none }) hq (P := P) (T := T) (nm := nm) (hv := hv) (s := s) (c := c) (v := .junk) (t := some (b, some x)) (bs := []) (by simp only [lres]; rw [hr]; rfl)
      cases this
    | grow c b n x =>
      have := quiet_lres (ops := ops) (o := { o with guard := none }) hq (P := P) (T := T) (nm := nm) (hv := hv) (s := s) (c := c) (v := .own n) (t := some (b, none)) (bs := [x]) (by simp only [lres]; rw [hr]; rfl)
      cases this
    | _ => trivial
  unfold HC
  split
  · exact key
  · split
    · exact key
    · trivial
def tHid (B : Array Nat) (C base j : Nat) : Option (Nat × Option Blk) → Prop
  | none => True
  | some (b, _) => (base ≤ b ∧ (b - base) / 8 ≠ j ∧ (B.getD j 0).testBit ((b - base) / 8) = false) ∨ (b < base ∧ hidO C j b = true)
theorem vis_tset {C base j : Nat} {hp : Nat → Option Blk} {t : Option (Nat × Option Blk)} (h : tHid B C base j t) : vis B C base j (tset hp t) = vis B C base j hp := by
  cases t with
  | none => rfl
  | some p =>
    obtain ⟨b, y⟩ := p
    funext x
    unfold vis
    by_cases hx : x = b
    · subst hx
      have : ¬ (if x < base then !hidO C j x else (B.getD j 0).testBit ((x - base) / 8)) = true := by
        rcases h with ⟨h1, h2, h3⟩ | ⟨h1, h2⟩
        · rw [if_neg (by omega), h3]; simp
        · rw [if_pos h1, h2]; simp
      rw [if_neg this, if_neg this]
    · simp only [tset, upd_other _ _ hx]
theorem putHp_tset {hp : Nat → Option Blk} {n : Nat} {bs : List Blk} {t : Option (Nat × Option Blk)} (h : ∀ b y, t = some (b, y) → b < n ∨ n + bs.length ≤ b) : putHp (tset hp t) n bs = tset (putHp hp n bs) t := by
  cases t with
  | none => rfl
  | some p =>
    obtain ⟨b, y⟩ := p
    have hb := h b y rfl
    funext x
    by_cases h1 : x < n ∨ n + bs.length ≤ x
    · rw [putHp_other bs n _ x h1]
      by_cases hx : x = b
      · subst hx; simp [tset, upd_same]
      · simp only [tset, upd_other _ _ hx]; rw [putHp_other bs n _ x h1]
    · obtain ⟨i, hi, rfl⟩ : ∃ i, i < bs.length ∧ x = n + i := ⟨x - n, by omega, by omega⟩
      rw [putHp_at bs n _ i hi]
      have hx : n + i ≠ b := by omega
      simp only [tset, upd_other _ _ hx]
      rw [putHp_at bs n _ i hi]
theorem appE_comm (s : St) {d d' : Option Tmp} {v v' : V} {n m : Nat} {xs ys : List Blk} {t t' : Option (Nat × Option Blk)} (hd : ∀ x, d = some x → d' ≠ some x) (h : n + xs.length ≤ m ∨ m + ys.length ≤ n)
    (ht : ∀ b y, t = some (b, y) → b < m ∨ m + ys.length ≤ b) (ht' : ∀ b y, t' = some (b, y) → b < n ∨ n + xs.length ≤ b) (h1 : t = none ∨ t' = none) :
    (s.appE d v n xs t).appE d' v' m ys t' = (s.appE d' v' m ys t').appE d v n xs t := by
  have hp1 : ∀ (hp : Nat → Option Blk), putHp (tset (putHp (tset hp t) n xs) t') m ys = putHp (tset (putHp (tset hp t') m ys) t) n xs := by
    intro hp
    have ee : tset (tset hp t) t' = tset (tset hp t') t := by rcases h1 with rfl | rfl <;> rfl
    rw [← putHp_tset (t := t') (n := n) (bs := xs) ht', ← putHp_tset (t := t) (n := m) (bs := ys) ht, ee, putHp_comm h]
  cases d with
  | none => cases d' <;> simp only [St.appE, St.put, hp1]
  | some x =>
    cases d' with
    | none => simp only [St.appE, St.put, hp1]
    | some x' =>
      have hne : x ≠ x' := fun e => hd x rfl (by rw [e])
      simp only [St.appE, St.put, hp1, upd_comm s.tm v v' hne]
/-- May the two change places, the one that is not quiet touching what the other does not see? -/
def hardOk (B : Array Nat) (size i j : Nat) (x y : Oper) (ops : Array Oper) : Bool :=
  x.apart ops y && ((quietOp y.op && (B.getD (size + 1 + i) 0).testBit j && decide (j < size)) || (quietOp x.op && (B.getD (size + 1 + j) 0).testBit i && decide (i < size)))
theorem AStep_hard {i j : Nat} (hij : i ≠ j) {oi oj : Oper} {C base size : Nat} {s : St} {K : St → Prop} (hbase : s.nx = base) (hok : hardOk B size i j oi oj ops = true) (hwji : (B.getD j 0).testBit i = false) (hwij : (B.getD i 0).testBit j = false)
    (H : AStep P T ops oi (base + 8 * i) (vis B C base i s.hp) (fun s1 => AStep P T ops oj (s1.nx + 8 * j) (vis B C s1.nx j s1.hp) K s1 ∧ HC P T ops oj (s1.nx + 8 * j) (vis B C s1.nx j s1.hp) (hidP B C size s1.nx j) s1) s ∧ HC P T ops oi (base + 8 * i) (vis B C base i s.hp) (hidP B C size base i) s) :
    AStep P T ops oj (base + 8 * j) (vis B C base j s.hp) (fun s2 => AStep P T ops oi (s2.nx + 8 * i) (vis B C s2.nx i s2.hp) K s2 ∧ HC P T ops oi (s2.nx + 8 * i) (vis B C s2.nx i s2.hp) (hidP B C size s2.nx i) s2) s ∧ HC P T ops oj (base + 8 * j) (vis B C base j s.hp) (hidP B C size base j) s := by
  simp only [hardOk, Bool.and_eq_true, Bool.or_eq_true, decide_eq_true_eq] at hok
  obtain ⟨hap, hk⟩ := hok
  obtain ⟨ap1, ap2, ap3⟩ := Oper.apart_spec hap
  obtain ⟨H, hHi⟩ := H
  rw [AStep_data] at H
  obtain ⟨ci, vi, ti, bi, hri, hci, hK, hHj⟩ := H
  have hli := lres_len hri hci
  obtain ⟨k1, k2, k3, k4⟩ := appE_keep s oi.dst vi (base + 8 * i) bi ti
  rw [k3, hbase, k4] at hK hHj
  -- what i touches is hidden from j
  have hti : tHid B C base j ti := by
    cases hh : ti with
    | none => trivial
    | some p =>
      obtain ⟨b, y⟩ := p
      subst hh
      rcases hk with ⟨⟨hq, hb⟩, hj⟩ | ⟨⟨hq, hb⟩, hi⟩
      · exact HC_touch hHi hri j hj hb
      · exact absurd (quiet_lres hq hri) (by simp)
  have hvis : vis B C base j (putHp (tset s.hp ti) (base + 8 * i) bi) = vis B C base j s.hp := (vis_put hli hwji).trans (vis_tset hti)
  rw [hvis] at hK hHj
  rw [AStep_data] at hK
  obtain ⟨cj, vj, tj, bj, hrj, hcj, hKj⟩ := hK
  have hsj : ∀ t ∈ oj.looksAt ops, (s.appE oi.dst vi (base + 8 * i) bi ti).tm t = s.tm t := fun t ht => k1 t (fun e => ap1 t e ht)
  rw [lres_congr hsj k2] at hrj
  rw [HC_congr hsj k2] at hHj
  have hlj := lres_len hrj hcj
  have htj : tHid B C base i tj := by
    cases hh : tj with
    | none => trivial
    | some p =>
      obtain ⟨b, y⟩ := p
      subst hh
      rcases hk with ⟨⟨hq, hb⟩, hj⟩ | ⟨⟨hq, hb⟩, hi⟩
      · exact absurd (quiet_lres hq hrj) (by simp)
      · exact HC_touch hHj hrj i hi hb
  have hnone : ti = none ∨ tj = none := by
    rcases hk with ⟨⟨hq, _⟩, _⟩ | ⟨⟨hq, _⟩, _⟩
    · exact .inr (quiet_lres hq hrj)
    · exact .inl (quiet_lres hq hri)
  refine ⟨?_, hHj⟩
  rw [AStep_data]
  obtain ⟨l1, l2, l3, l4⟩ := appE_keep s oj.dst vj (base + 8 * j) bj tj
  have hvis2 : vis B C base i (putHp (tset s.hp tj) (base + 8 * j) bj) = vis B C base i s.hp := (vis_put hlj hwij).trans (vis_tset htj)
  have hsi : ∀ t ∈ oi.looksAt ops, (s.appE oj.dst vj (base + 8 * j) bj tj).tm t = s.tm t := fun t ht => l1 t (fun e => ap3 t e ht)
  refine ⟨cj, vj, tj, bj, hrj, hcj, ?_⟩
  rw [l3, hbase, l4, hvis2]
  refine ⟨?_, by rw [HC_congr hsi l2]; exact hHi⟩
  rw [AStep_data]
  refine ⟨ci, vi, ti, bi, by rw [lres_congr hsi l2]; exact hri, hci, ?_⟩
  have rng : ∀ (j : Nat) (bs : List Blk) (t : Option (Nat × Option Blk)), bs.length ≤ 8 → tHid B C base j t → ∀ b y, t = some (b, y) → b < base + 8 * j ∨ base + 8 * j + bs.length ≤ b := by
    intro j bs t hl ht b y e
    subst e
    rcases ht with ⟨h1, h2, _⟩ | ⟨h1, _⟩ <;> omega
  rw [← appE_comm s (d := oi.dst) (d' := oj.dst) (fun t ht => ap2 t ht) (by
    rcases Nat.lt_or_gt_of_ne hij with h | h
    · left; omega
    · right; omega) (rng j bj ti hlj hti) (rng i bi tj hli htj) hnone]
  exact hKj
/-- Where the two may change places, the condition on what is touched goes along. -/
theorem AStep_swapH {i j : Nat} (hij : i ≠ j) {oi oj : Oper} {C base size : Nat} {s : St} {K : St → Prop} (hbase : s.nx = base) (hok : (swapOk P ops oi oj || hardOk B size i j oi oj ops) = true) (hwji : (B.getD j 0).testBit i = false) (hwij : (B.getD i 0).testBit j = false)
    (H : AStep P T ops oi (base + 8 * i) (vis B C base i s.hp) (fun s1 => AStep P T ops oj (s1.nx + 8 * j) (vis B C s1.nx j s1.hp) K s1 ∧ HC P T ops oj (s1.nx + 8 * j) (vis B C s1.nx j s1.hp) (hidP B C size s1.nx j) s1) s ∧ HC P T ops oi (base + 8 * i) (vis B C base i s.hp) (hidP B C size base i) s) :
    AStep P T ops oj (base + 8 * j) (vis B C base j s.hp) (fun s2 => AStep P T ops oi (s2.nx + 8 * i) (vis B C s2.nx i s2.hp) K s2 ∧ HC P T ops oi (s2.nx + 8 * i) (vis B C s2.nx i s2.hp) (hidP B C size s2.nx i) s2) s ∧ HC P T ops oj (base + 8 * j) (vis B C base j s.hp) (hidP B C size base j) s := by
  rw [Bool.or_eq_true] at hok
  rcases hok with hsw | hh
  · have H1 := AStep_swap (B := B) hij hbase hsw hwji hwij (AStep_mono (fun s1 h => h.1) H.1)
    simp only [swapOk, Bool.and_eq_true, Bool.or_eq_true] at hsw
    obtain ⟨hap, hk⟩ := hsw
    obtain ⟨ap1, ap2, ap3⟩ := Oper.apart_spec hap
    have hHj : HC P T ops oj (base + 8 * j) (vis B C base j s.hp) (hidP B C size base j) s := by
      by_cases hqj : quietOp oj.op = true
      · exact HC_quiet hqj
      · have hqi : quietOp oi.op = true := by
          rcases hk with (⟨h, _⟩ | h) | h
          · exact h
          · exact pure_quiet h
          · exact absurd (pure_quiet h) hqj
        have H2 := H.1
        rw [AStep_data] at H2
        obtain ⟨ci, vi, ti, bi, hri, hci, _, hHj⟩ := H2
        obtain rfl := quiet_lres hqi hri
        obtain ⟨k1, k2, k3, k4⟩ := appE_keep s oi.dst vi (base + 8 * i) bi none
        rw [k3, hbase, k4] at hHj
        have hvis : vis B C base j (putHp (tset s.hp none) (base + 8 * i) bi) = vis B C base j s.hp := vis_put (lres_len hri hci) hwji
        rw [hvis, HC_congr (fun t ht => k1 t (fun e => ap1 t e ht)) k2] at hHj
        exact hHj
    refine ⟨?_, hHj⟩
    by_cases hqi : quietOp oi.op = true
    · exact AStep_mono (fun s2 h => ⟨h, HC_quiet hqi⟩) H1
    · have hqj : quietOp oj.op = true := by
        rcases hk with (⟨_, h⟩ | h) | h
        · exact h
        · exact absurd (pure_quiet h) hqi
        · exact pure_quiet h
      rw [AStep_data] at H1 ⊢
      obtain ⟨cj, vj, tj, bj, hrj, hcj, hK⟩ := H1
      refine ⟨cj, vj, tj, bj, hrj, hcj, hK, ?_⟩
      obtain rfl := quiet_lres hqj hrj
      obtain ⟨k1, k2, k3, k4⟩ := appE_keep s oj.dst vj (base + 8 * j) bj none
      rw [k3, hbase, k4]
      have hvis : vis B C base i (putHp (tset s.hp none) (base + 8 * j) bj) = vis B C base i s.hp := vis_put (lres_len hrj hcj) hwij
      rw [hvis, HC_congr (fun t ht => k1 t (fun e => ap3 t e ht)) k2]
      exact H.2
  · exact AStep_hard hij hbase hh hwji hwij H

theorem aAny_first (hB : masksOk ops B = true) {Q : St → Prop} {i : Nat} {oi : Oper} (hi : ops[i]? = some oi) (hirr : (B.getD i 0).testBit i = false) : ∀ (fuel : Nat) (listed : Array Bool) (s : St), Closed B listed →
    (∀ j oj, ops[j]? = some oj → j ≠ i → listed.getD j true = false → (B.getD j 0).testBit i = true ∨ (isCut ops B i = false ∧ isCut ops B j = false ∧ (swapOk P ops oi oj || hardOk B ops.size i j oi oj ops) = true)) →
    i ∈ Region.ready .any ops listed → AStepI P T ops B i (aAny P T ops B Q fuel (listed.setIfInBounds i true)) s → aAny P T ops B Q (fuel + 1) listed s := by
  intro fuel
  induction fuel with
  | zero =>
    intro listed s hcl hfree hr H
    refine ⟨fun h => (by rw [h] at hr; cases hr), fun j hj => ?_⟩
    by_cases hji : j = i
    · subst hji; exact H
    · have hun := (mem_ready.1 hj).1
      obtain ⟨_, oj, hoj, _⟩ := mem_ready.1 hj
      rcases hfree j oj hoj hji hun with hw | ⟨hci, _, _⟩
      · have := ready_waits hB hcl hj hw
        have h0 := (mem_ready.1 hr).1
        exfalso
        rcases Nat.lt_or_ge i listed.size with h' | h'
        · simp [h'] at h0 this; rw [h0] at this; cases this
        · simp [Array.getElem?_eq_none h'] at this
      · have hj2 := ready_mono hj hji
        unfold AStepI at H
        simp only [hi] at H
        rw [if_neg (by rw [hci]; simp)] at H
        obtain ⟨_, hK⟩ := AStep_ex H.1
        rw [hK.1] at hj2
        cases hj2
  | succ fuel ih =>
    intro listed s hcl hfree hr H
    refine ⟨fun h => (by rw [h] at hr; cases hr), fun j hj => ?_⟩
    by_cases hji : j = i
    · subst hji; exact H
    · have hun := (mem_ready.1 hj).1
      obtain ⟨_, oj, hoj, _⟩ := mem_ready.1 hj
      have h0 := (mem_ready.1 hr).1
      have hnl : listed.getD i false = false := by
        rcases Nat.lt_or_ge i listed.size with h' | h'
        · simp [h'] at h0 ⊢; exact h0
        · simp [Array.getElem?_eq_none h']
      rcases hfree j oj hoj hji hun with hw | ⟨hci, hcj, hsw⟩
      · have := ready_waits hB hcl hj hw
        rw [hnl] at this
        cases this
      · have hwji : (B.getD j 0).testBit i = false := by
          cases hx : (B.getD j 0).testBit i
          · rfl
          · have := ready_waits hB hcl hj hx
            rw [hnl] at this; cases this
        have hwij : (B.getD i 0).testBit j = false := by
          cases hx : (B.getD i 0).testBit j
          · rfl
          · have := ready_waits hB hcl hr hx
            exfalso
            rcases Nat.lt_or_ge j listed.size with h' | h'
            · simp [h'] at hun this; rw [hun] at this; cases this
            · simp [Array.getElem?_eq_none h'] at this
        have H' := H
        unfold AStepI at H'
        simp only [hi] at H'
        rw [if_neg (by rw [hci]; simp)] at H'
        have H2 : AStep P T ops oi (s.nx + 8 * i) (vis B (B.getD ops.size 0) s.nx i s.hp) (fun s1 => AStep P T ops oj (s1.nx + 8 * j) (vis B (B.getD ops.size 0) s1.nx j s1.hp) (aAny P T ops B Q fuel ((listed.setIfInBounds i true).setIfInBounds j true)) s1 ∧ HC P T ops oj (s1.nx + 8 * j) (vis B (B.getD ops.size 0) s1.nx j s1.hp) (hidP B (B.getD ops.size 0) ops.size s1.nx j) s1) s := by
          refine AStep_mono (fun s1 hs1 => ?_) H'.1
          have hj2 := hs1.2 j (ready_mono hj hji)
          unfold AStepI at hj2
          simp only [hoj] at hj2
          rw [if_neg (by rw [hcj]; simp)] at hj2
          exact hj2
        have H3 := AStep_swapH (B := B) (Ne.symm hji) rfl hsw hwji hwij ⟨H2, H'.2⟩
        unfold AStepI
        simp only [hoj]
        rw [if_neg (by rw [hcj]; simp)]
        refine ⟨AStep_mono (fun s2 hs2 => ?_) H3.1, H3.2⟩
        refine ih _ _ (hcl.set hB hj) ?_ (ready_mono hr (Ne.symm hji)) ?_
        · intro k ok hk hki hunk
          refine hfree k ok hk hki ?_
          by_cases hjk : j = k
          · subst hjk; exact hun
          · rw [getD_set_ne true hjk] at hunk; exact hunk
        · unfold AStepI
          simp only [hi]
          rw [if_neg (by rw [hci]; simp), Array.setIfInBounds_comm _ _ hji]
          exact hs2

/-- The check of a region: in the text's order each operation may come up, and whoever has not come up yet waits for it or may change places with it. -/
def lexOk (P : Program) (ops : Array Oper) (B : Array Nat) : Nat → Nat → Array Bool → Bool
  | 0, _, listed => (Region.ready .any ops listed).isEmpty
  | n + 1, k, listed => (Region.ready .any ops listed).contains k && !(B.getD k 0).testBit k &&
      ((List.range ops.size).all fun j => j == k || listed.getD j true || (B.getD j 0).testBit k ||
        (!isCut ops B k && !isCut ops B j && match ops[k]?, ops[j]? with
        | some ok, some oj => swapOk P ops ok oj || hardOk B ops.size k j ok oj ops
        | _, _ => false)) && lexOk P ops B n (k + 1) (listed.setIfInBounds k true)
def regOkB (P : Program) (ops : Array Oper) (B : Array Nat) : Bool := masksOk ops B && lexOk P ops B ops.size 0 (Array.replicate ops.size false)
def regOk (P : Program) (ops : Array Oper) : Bool := regOkB P ops (Region.before ops)

theorem aAny_lex (hB : masksOk ops B = true) {Q : St → Prop} : ∀ (l : List Oper) (k : Nat) (listed : Array Bool) (s : St), (∀ j, l[j]? = ops[k + j]?) → Closed B listed →
    lexOk P ops B l.length k listed = true → WLex P T ops B (B.getD ops.size 0) Q k l s → aAny P T ops B Q l.length listed s
  | [], k, listed, s, _, _, hx, h => ⟨by simpa [lexOk] using hx, h⟩
  | o :: l, k, listed, s, hl, hcl, hx, h => by
    have h0 : ops[k]? = some o := by simpa using (hl 0).symm
    simp only [List.length_cons, lexOk, Bool.and_eq_true] at hx
    obtain ⟨⟨⟨hr, hirr⟩, hall⟩, hrest⟩ := hx
    have hr' : k ∈ Region.ready .any ops listed := by simpa using hr
    have step : ∀ s', WLex P T ops B (B.getD ops.size 0) Q (k + 1) l s' → aAny P T ops B Q l.length (listed.setIfInBounds k true) s' := fun s' hs' =>
      aAny_lex hB l (k + 1) _ _ (fun j => by have := hl (j + 1); simpa [Nat.add_assoc, Nat.add_comm 1 j] using this) (hcl.set hB hr') hrest hs'
    refine aAny_first hB h0 (by simpa using hirr) l.length listed s hcl (fun j oj hj hjk hun => ?_) hr' ?_
    · have h1 := List.all_eq_true.1 hall j (List.mem_range.2 (Array.getElem?_eq_some_iff.1 hj).1)
      simp only [h0, hj, Bool.or_eq_true, Bool.and_eq_true, beq_iff_eq, hjk, hun, false_or] at h1
      rcases h1 with (h1 | h1) | h1
      · cases h1
      · exact .inl h1
      · exact .inr ⟨by simpa using h1.1.1, by simpa using h1.1.2, by rw [Bool.or_eq_true]; exact h1.2⟩
    · unfold AStepI
      simp only [h0]
      simp only [WLex] at h
      by_cases hc : isCut ops B k = true
      · rw [if_pos hc]
        have hc' : (B.getD ops.size 0).testBit k = true := hc
        rw [if_pos hc'] at h
        exact ⟨_, step, h⟩
      · rw [if_neg hc]
        have hc' : ¬ (B.getD ops.size 0).testBit k = true := hc
        rw [if_neg hc'] at h
        exact ⟨AStep_mono step h.1, h.2⟩
end

section
variable {P : Program} [Gl P] {T : Tab} {X : Fr} {E : Env} {a : Act} {s : St} {ops : Array Oper} {B : Array Nat}
theorem opR_plain_of {T : Tab} {o : Oper} {nm : Nat} {hv : Nat → Option Blk} {s : St} {K : St → Prop} (h : orK (opR P T.q o.dst nm hv s o.op) o.dst s K noX) : (opR P T.q o.dst nm hv s o.op).plain = true := by
  have h1 := opR_q (P := P) (T := T) (o := o) (nm := nm) (hv := hv) (s := s)
  generalize opR P T.q o.dst nm hv s o.op = r at *
  cases r <;> first | rfl | exact absurd rfl (h1 _ _) | exact h.2.elim
/-- One operation of a region that draws its order. -/
theorem AStep_sound (hT : T.ok P) (hs : CRel P X E a s) {hv : Nat → Option Blk} (hsub : ∀ b x, hv b = some x → s.hp b = some x) {o : Oper} {nm : Nat} (hnm : ∀ j, j < 8 → ¬ E.D (nm + j)) {K : St → Prop} (Q : Exit → Act → World → Prop) (h : AStep P T ops o nm hv K s) :
    if Region.wanted o (yielded ops a.tmps) then o.wpIn (FR X.ρ) 0 P a E.w (Goes P X E nm 8 K) Q else Goes P X E nm 8 K (a.put o.dst undef) E.w :=
  gStep_sound hs (fun h1 => op_sound (Tab.q_ok hT) hs hsub hnm Q (opR_plain_of h1) h1) (fun h1 => ⟨E, _, rfl, hs.put h1.1 (fun _ => by simp only [R]; exact ⟨[], rfl, by simp only [RL]⟩), h1.2, Ev.refl _ _, fun b hb => .inl hb⟩) h
theorem CStep0_sound (hT : T.ok P) (hs : SRel P X E a s) {o : Oper} {K : St → Prop} (h : CStep0 P T ops o K s) :
    if Region.wanted o (yielded ops a.tmps) then o.wpIn (FR X.ρ) 0 P a E.w (GoesT P X E.w K) (postA P X E.w (onPanic noX)) else GoesT P X E.w K (a.put o.dst undef) E.w := by
  refine gStep_sound hs.toCRel (fun h1 => opT_sound hT hs h1) (fun h1 => ⟨E, _, rfl, ?_, h1.2, Ev.refl _ _⟩) h
  have hC := hs.toCRel.put (dst := o.dst) h1.1 (u := undef) (v := .tup []) (fun _ => by simp only [R]; exact ⟨[], rfl, by simp only [RL]⟩)
  exact { hC with nx := fun b hb => by have := hs.nx b hb; cases o.dst <;> exact this }
theorem aAny_sound (hT : T.ok P) {w0 : World} {Q : AX → St → Prop} : ∀ (fuel : Nat) (listed : Array Bool) {E : Env} {a : Act} {s : St}, listed.size = ops.size → CRel P X E a s →
    (∀ b, E.D b → b < s.nx ∨ ∃ j, listed.getD j false = true ∧ s.nx + 8 * j ≤ b ∧ b < s.nx + 8 * j + 8) → Ev X.F w0 E.w →
    aAny P T ops B (fun s' => Q .normal { s' with nx := s'.nx + 8 * ops.size }) fuel listed s →
    wpAnyIn (FR X.ρ) 0 P .any ops (postA P X w0 Q) fuel listed a E.w := by
  have bnd : ∀ (listed : Array Bool) {E : Env} {s : St}, listed.size = ops.size → (∀ b, E.D b → b < s.nx ∨ ∃ j, listed.getD j false = true ∧ s.nx + 8 * j ≤ b ∧ b < s.nx + 8 * j + 8) → ∀ b, E.D b → b < s.nx + 8 * ops.size := by
    intro listed E s hsz hD b hb
    rcases hD b hb with h | ⟨j, hj, _, h⟩
    · omega
    · have : j < listed.size := by
        rcases Nat.lt_or_ge j listed.size with h' | h'
        · exact h'
        · simp [Array.getElem?_eq_none h'] at hj
      omega
  have fin : ∀ (listed : Array Bool) {E : Env} {a : Act} {s : St}, listed.size = ops.size → CRel P X E a s →
    (∀ b, E.D b → b < s.nx ∨ ∃ j, listed.getD j false = true ∧ s.nx + 8 * j ≤ b ∧ b < s.nx + 8 * j + 8) → Ev X.F w0 E.w → Q .normal { s with nx := s.nx + 8 * ops.size } →
    postA P X w0 Q .normal a E.w := by
    intro listed E a s hsz hC hD hev hq
    exact ⟨E, { s with nx := s.nx + 8 * ops.size }, .normal, rfl, ⟨hC.setN _, bnd listed hsz hD⟩, rfl, hq, hev⟩
  intro fuel
  induction fuel with
  | zero =>
    intro listed E a s hsz hC hD hev h
    exact ⟨h.1, fin listed hsz hC hD hev h.2⟩
  | succ fuel ih =>
    intro listed E a s hsz hC hD hev h
    refine ⟨fun h0 => fin listed hsz hC hD hev (h.1 h0), fun i hi => ?_⟩
    have h1 := h.2 i hi
    obtain ⟨hun, o, ho, _⟩ := mem_ready.1 hi
    have hil : i < listed.size := by rw [hsz]; exact (Array.getElem?_eq_some_iff.1 ho).1
    have hnl : listed.getD i false = false := by simp [hil] at hun ⊢; exact hun
    unfold AStepI at h1
    simp only [ho] at h1
    by_cases hc : isCut ops B i = true
    · rw [if_pos hc] at h1
      obtain ⟨K', hK', h1⟩ := h1
      have hS : SRel P X E a (s.setN (s.nx + 8 * ops.size)) := ⟨hC.setN _, bnd listed hsz hD⟩
      have h2 := CStep0_sound hT hS h1
      have go : ∀ a' w', GoesT P X E.w K' a' w' → wpAnyIn (FR X.ρ) 0 P .any ops (postA P X w0 Q) fuel (listed.setIfInBounds i true) a' w' := by
        rintro a' w' ⟨E', s', rfl, hS', hk, hev'⟩
        exact ih _ (by simpa using hsz) hS'.toCRel (fun b hb => .inl (hS'.nx b hb)) (hev.trans hev') (hK' _ hk)
      have goX : ∀ e a' w', postA P X E.w (onPanic noX) e a' w' → postA P X w0 Q e a' w' := by
        rintro e a' w' ⟨E', s', x, rfl, h1, h2, h3, h4⟩
        cases x <;> exact h3.elim
      unfold wpOpIn
      simp only [ho]
      split
      · rename_i hw
        rw [if_pos hw] at h2
        refine ⟨fun _ _ => trivial, ?_⟩
        have h3 := h2.2
        revert h3
        generalize (o.semAt (FR X.ρ).round a.eval).run P E.w = r
        intro h3
        cases r with
        | halt x w' => cases x <;> simp only [Oper.uponIn] at h3 ⊢ <;> exact goX _ _ _ h3
        | ok n w' =>
          cases n <;> simp only [Oper.uponIn] at h3 ⊢ <;> first
            | exact go _ _ h3
            | exact ⟨h3.1, CallsIn.mono h3.2 (fun e w'' he => by cases e <;> first | exact go _ _ he | exact goX _ _ _ he | (obtain ⟨a0, w0', hq⟩ := he; exact ⟨a0, w0', goX _ _ _ hq⟩))⟩
            | exact ⟨h3.1, RowsIn.mono h3.2 (fun _ _ he => go _ _ he)⟩
            | exact ⟨h3.1, RoundIn.mono h3.2 (fun e w'' he => by cases e <;> first | exact go _ _ he | exact goX _ _ _ he | (obtain ⟨a0, w0', hq⟩ := he; exact ⟨a0, w0', goX _ _ _ hq⟩))⟩
      · rename_i hw
        rw [if_neg hw] at h2
        exact ⟨fun _ _ => trivial, go _ _ h2⟩
    · rw [if_neg hc] at h1
      have hfresh : ∀ j, j < 8 → ¬ E.D (s.nx + 8 * i + j) := fun j hj hb => by
        rcases hD _ hb with h | ⟨k, hk, h2, h3⟩
        · omega
        · have : k = i := by omega
          subst this
          rw [hnl] at hk; cases hk
      have h2 := AStep_sound hT hC vis_sub hfresh (postA P X w0 Q) (AStep_keep h1.1)
      have go : ∀ a' w', Goes P X E (s.nx + 8 * i) 8 (fun s' => aAny P T ops B (fun s' => Q .normal { s' with nx := s'.nx + 8 * ops.size }) fuel (listed.setIfInBounds i true) s' ∧ (∀ t, o.dst ≠ some t → s'.tm t = s.tm t) ∧ s'.nt = s.nt ∧ s'.nx = s.nx) a' w' →
          wpAnyIn (FR X.ρ) 0 P .any ops (postA P X w0 Q) fuel (listed.setIfInBounds i true) a' w' := by
        rintro a' w' ⟨E', s', rfl, hC', ⟨hk, _, _, hnx⟩, hev', hD'⟩
        refine ih _ (by simpa using hsz) hC' (fun b hb => ?_) (hev.trans hev') hk
        rw [hnx]
        rcases hD' b hb with h | h
        · rcases hD b h with h | ⟨j, hj, h3⟩
          · exact .inl h
          · exact .inr ⟨j, getD_set_true hj, h3⟩
        · exact .inr ⟨i, by simp [hil], h⟩
      unfold wpOpIn
      simp only [ho]
      split
      · rename_i hw
        rw [if_pos hw] at h2
        exact Oper.wpIn_mono go h2
      · rename_i hw
        rw [if_neg hw] at h2
        exact ⟨fun _ _ => trivial, go _ _ h2⟩

theorem drawn_rel (hs : SRel P X E a s) : SRel P X { E with w := { E.w with drawn := E.w.drawn + 1 } } a s ∧ Ev X.F E.w { E.w with drawn := E.w.drawn + 1 } := by
  have hle : E.le { E with w := { E.w with drawn := E.w.drawn + 1 } } := ⟨fun _ h => h, fun _ _ => rfl, Nat.le_refl _, fun _ _ h => ⟨rfl, h⟩⟩
  have hG : Grows X.F E { E with w := { E.w with drawn := E.w.drawn + 1 } } := ⟨hle, fun _ _ h => h, fun _ h => .inl h, fun _ h => h, fun _ _ => rfl, ⟨rfl, rfl, rfl, Nat.le_refl _, fun _ _ => rfl, fun _ => Nat.le_succ _⟩⟩
  have hC := hs.toCRel.grow hG (hp' := s.hp) ⟨fun b x hx => ⟨(hs.hp.blk b x hx).1, (hs.hp.blk b x hx).2.grow hG⟩, hs.hp.sep⟩
  exact ⟨⟨hC, hs.nx⟩, hG.ev⟩
theorem W.region_draw (hT : T.ok P) (hm : P.follows .mixedOrders = true) {id : Nat} {s : St} {Q : AX → St → Prop} (hok : regOkB P ops B = true)
    (h : WLex P T ops B (B.getD ops.size 0) (fun s' => Q .normal { s' with nx := s'.nx + 8 * ops.size }) 0 ops.toList s) : W P (.region id ops true) s Q := by
  intro X E a hs
  simp only [regOkB, Bool.and_eq_true] at hok
  refine wpIn_region_any hm ?_
  have h1 := aAny_lex (P := P) (T := T) hok.1 ops.toList 0 (Array.replicate ops.size false) s (by simp) (fun j hj => by
    exfalso
    rcases Nat.lt_or_ge j ops.size with h' | h'
    · simp [h'] at hj
    · simp [Array.getElem?_eq_none, h'] at hj) (by simpa using hok.2) h
  obtain ⟨hS, hev⟩ := drawn_rel hs
  have := aAny_sound (ops := ops) (B := B) hT (Q := Q) ops.size (Array.replicate ops.size false) (by simp) hS.toCRel (fun b hb => .inl (hs.nx b hb)) hev (by simpa using h1)
  exact this

/-- In each state of the text's order just the next operation may come up. -/
def strictOk (ops : Array Oper) : Nat → Nat → Array Bool → Bool
  | 0, _, listed => (Region.ready .any ops listed).isEmpty
  | n + 1, k, listed => (Region.ready .any ops listed == [k]) && strictOk ops n (k + 1) (listed.setIfInBounds k true)
theorem strict_any {F : Fence} {Q : Exit → Act → World → Prop} : ∀ (n k : Nat) (listed : Array Bool) (a : Act) (w : World), k + n = ops.size → strictOk ops n k listed = true → wpOpsIn F 0 P ops Q ((List.range ops.size).drop k) a w → wpAnyIn F 0 P .any ops Q n listed a w
  | 0, k, listed, a, w, hk, hs, h => by
    refine ⟨by simpa [strictOk] using hs, ?_⟩
    rw [List.drop_eq_nil_of_le (by simp; omega)] at h
    exact h
  | n + 1, k, listed, a, w, hk, hs, h => by
    simp only [strictOk, Bool.and_eq_true, beq_iff_eq] at hs
    refine ⟨fun h0 => absurd (hs.1.symm.trans h0) (by simp), fun i hi => ?_⟩
    rw [hs.1] at hi
    simp only [List.mem_singleton] at hi
    subst hi
    rw [List.drop_eq_getElem_cons (by simp; omega), List.getElem_range, wpOpsIn_cons] at h
    exact wpOpIn_mono (fun a w h' => strict_any n (i + 1) _ a w (by omega) hs.2 h') h
theorem W.region_strict (hT : T.ok P) (hm : P.follows .mixedOrders = true) {id : Nat} {s : St} {Q : AX → St → Prop} (hok : strictOk ops ops.size 0 (Array.replicate ops.size false) = true)
    (h : WOps P T ops (Q .normal) (fun v => Q (.panic v)) ops.toList s) : W P (.region id ops true) s Q := by
  intro X E a hs
  obtain ⟨hS, hev⟩ := drawn_rel hs
  refine wpIn_region_any hm (strict_any ops.size 0 _ a _ (by simp) hok ?_)
  rw [List.drop_zero]
  exact WOps_sound hT _ _ (ops_range ops) hS hev h
end
end Go.Proofs.YtbnjijffkjcmcaaDoor.AL
namespace Go.Proofs.YtbnjijffkjcmcaaDoor.AL
open Go


/-! ### From what an argument reads as to an abstract value -/
inductive Sh where
  | int (k : IntKind)
  | bool
  | str
  | sl (l : List Sh)

mutual
def VSh : Sh → V → Prop
  | .int k, v => ∃ n, v = .int k n ∧ (Lit.int k n).wf = true
  | .bool, v => ∃ b, v = .bool b
  | .str, v => ∃ s : ByteArray, v = .str s ∧ s.size ≤ maxLen
  | .sl l, v => ∃ rows, v = .rd (shLen l) rows ∧ rows.length ≤ maxLen ∧ ∀ r ∈ rows, LSh l r
def LSh : List Sh → List V → Prop
  | [], vs => vs = []
  | s :: ss, vs => ∃ v vs', vs = v :: vs' ∧ VSh s v ∧ LSh ss vs'
def shLen : List Sh → Nat
  | [] => 0
  | _ :: ss => shLen ss + 1
end
theorem shLen_eq : ∀ l : List Sh, shLen l = l.length
  | [] => rfl
  | _ :: ss => by simp [shLen, shLen_eq ss]

/-- The cells of a struct, field by field, if the fields lie one behind the other. -/
def shFields (rec : TypeId → Option (List Sh)) (P : Program) : Nat → List Field → Option (List Sh)
  | _, [] => some []
  | off, f :: fs => if f.offset = off then
      match rec f.type with
      | some l => if l.length = P.cellsOf f.type then
          match shFields rec P (off + l.length) fs with
          | some ls => some (l ++ ls)
          | none => none
        else none
      | none => none
    else none
def shRep (l : List Sh) : Nat → List Sh
  | 0 => []
  | n + 1 => l ++ shRep l n
def shp (P : Program) : Nat → TypeId → Option (List Sh)
  | 0, _ => none
  | k + 1, t => match P.underlying t with
    | some .bool => some [.bool]
    | some (.int q) => some [.int q]
    | some .string => some [.str]
    | some (.slice e) => match shp P k e with
      | some l => if l.length = P.cellsOf e ∧ 0 < l.length then some [.sl l] else none
      | none => none
    | some (.struct fs) => match shFields (shp P k) P 0 fs.toList with
      | some l => if l.length = P.cellsOf t then some l else none
      | none => none
    | some (.array n e) => match shp P k e with
      | some l => if l.length = P.cellsOf e ∧ n * l.length = P.cellsOf t then some (shRep l n) else none
      | none => none
    | _ => none

theorem LSh.length : ∀ {l : List Sh} {vs : List V}, LSh l vs → vs.length = l.length
  | [], vs, h => by simp only [LSh] at h; subst h; rfl
  | s :: ss, vs, h => by
    simp only [LSh] at h
    obtain ⟨v, vs', rfl, _, h2⟩ := h
    simp [LSh.length h2]
theorem LSh.append : ∀ {l m : List Sh} {vs us : List V}, LSh l vs → LSh m us → LSh (l ++ m) (vs ++ us)
  | [], m, vs, us, h, k => by simp only [LSh] at h; subst h; simpa using k
  | s :: ss, m, vs, us, h, k => by
    simp only [LSh] at h
    obtain ⟨v, vs', rfl, h1, h2⟩ := h
    simp only [List.cons_append, LSh]
    exact ⟨v, vs' ++ us, rfl, h1, LSh.append h2 k⟩
theorem VSh.tree {s : Sh} {v : V} (h : VSh s v) : v.tree = true ∧ v.one = true := by
  cases s <;> simp only [VSh] at h
  · obtain ⟨n, rfl, _⟩ := h; exact ⟨rfl, rfl⟩
  · obtain ⟨n, rfl⟩ := h; exact ⟨rfl, rfl⟩
  · obtain ⟨n, rfl, _⟩ := h; exact ⟨rfl, rfl⟩
  · obtain ⟨n, rfl, _⟩ := h; exact ⟨rfl, rfl⟩
theorem LSh.tree : ∀ {l : List Sh} {vs : List V}, LSh l vs → ∀ v ∈ vs, v.tree = true ∧ v.one = true
  | [], vs, h => by simp only [LSh] at h; subst h; simp
  | s :: ss, vs, h => by
    simp only [LSh] at h
    obtain ⟨v, vs', rfl, h1, h2⟩ := h
    intro u hu
    rcases List.mem_cons.1 hu with rfl | hu
    · exact h1.tree
    · exact LSh.tree h2 u hu

theorem mapM_some {α β : Type} {f : α → Option β} : ∀ {l : List α} {r : List β}, l.mapM f = some r → r.length = l.length ∧ ∀ (i : Nat) x, l[i]? = some x → ∃ y, f x = some y ∧ r[i]? = some y
  | [], r, h => by
    simp at h
    subst h
    simp
  | a :: l, r, h => by
    simp only [List.mapM_cons, Option.bind_eq_bind, Option.bind_eq_some_iff, Option.pure_def, Option.some.injEq] at h
    obtain ⟨y, hy, r', hr, rfl⟩ := h
    obtain ⟨h1, h2⟩ := mapM_some hr
    refine ⟨by simp [h1], fun i x hx => ?_⟩
    cases i with
    | zero => simp at hx; subst hx; exact ⟨y, hy, rfl⟩
    | succ i => simpa using h2 i x (by simpa using hx)

theorem cells_of {w : World} {base : Nat} {a : Addr} {n : Nat} {cs : List Value} (h : w.cells? base a n = some cs) : cs.length = n ∧ ∀ i, i < n → ∃ v, w.cell? (a.add i) = some v ∧ cs[i]? = some v := by
  unfold World.cells? at h
  split at h
  · obtain ⟨h1, h2⟩ := mapM_some h
    refine ⟨by simpa using h1, fun i hi => ?_⟩
    obtain ⟨y, hy, hr⟩ := h2 i i (by simp [hi])
    exact ⟨y, hy, hr⟩
  · exact absurd h (by simp)

theorem RRow_of_cells {E : Env} {g o : Nat} : ∀ {row : List V} {cs : List Value}, RL E row cs → (∀ i v, cs[i]? = some v → E.w.cell? ⟨g, o + i, none⟩ = some v) → (∀ c ∈ row, c.one = true) → RRow E row g o :=
  fun h hc ho => RRow.of_list h hc (RL.ones h ho)

/-- The fields of a struct, each read, give the cells. -/
theorem fields_V {E : Env} {P : Program} {rec : TypeId → Option (List Sh)} {rd : TypeId → List Value → Prop} (hrec : ∀ t l cs, rec t = some l → rd t cs → ∃ Vs, RL E Vs cs ∧ LSh l Vs) :
    ∀ (fs : List Field) (off : Nat) (ls : List Sh) (cs : List Value), shFields rec P off fs = some ls → off + ls.length = cs.length → (∀ f ∈ fs, rd f.type ((cs.drop f.offset).take (P.cellsOf f.type))) →
    ∃ Vs, RL E Vs (cs.drop off) ∧ LSh ls Vs
  | [], off, ls, cs, h, hl, _ => by
    simp only [shFields, Option.some.injEq] at h
    subst h
    simp only [List.length_nil, Nat.add_zero] at hl
    exact ⟨[], by rw [hl]; simp [RL], by simp only [LSh]⟩
  | f :: fs, off, ls, cs, h, hl, hr => by
    simp only [shFields] at h
    split at h
    · rename_i hoff
      split at h
      · rename_i l hrf
        split at h
        · rename_i hlen
          split at h
          · rename_i ls' hls
            simp only [Option.some.injEq] at h
            subst h
            simp only [List.length_append] at hl
            obtain ⟨Vs, h1, h2⟩ := hrec _ _ _ hrf (hr f (by simp))
            obtain ⟨Us, k1, k2⟩ := fields_V hrec fs (off + l.length) ls' cs hls (by omega) (fun g hg => hr g (by simp [hg]))
            refine ⟨Vs ++ Us, ?_, LSh.append h2 k2⟩
            have := RL.append h1 k1
            rw [hoff, ← hlen] at this
            have e : (cs.drop off).take l.length ++ cs.drop (off + l.length) = cs.drop off := by
              rw [← List.drop_drop, List.take_append_drop]
            rwa [e] at this
          · exact absurd h (by simp)
        · exact absurd h (by simp)
      · exact absurd h (by simp)
    · exact absurd h (by simp)

theorem rep_V {E : Env} {l : List Sh} {cs : List Value} : ∀ (n k : Nat), (∀ i, i < n → ∃ Vs, RL E Vs ((cs.drop ((k + i) * l.length)).take l.length) ∧ LSh l Vs) → cs.length = (k + n) * l.length →
    ∃ Vs, RL E Vs (cs.drop (k * l.length)) ∧ LSh (shRep l n) Vs
  | 0, k, _, hl => ⟨[], by rw [List.drop_eq_nil_of_le (by rw [hl]; simp)]; simp [RL], by simp only [shRep, LSh]⟩
  | n + 1, k, h, hl => by
    obtain ⟨Vs, h1, h2⟩ := h 0 (by omega)
    obtain ⟨Us, k1, k2⟩ := rep_V n (k + 1) (fun i hi => by have := h (i + 1) (by omega); rwa [show k + (i + 1) = k + 1 + i by omega] at this) (by rw [hl]; congr 1; omega)
    refine ⟨Vs ++ Us, ?_, by simp only [shRep]; exact LSh.append h2 k2⟩
    have := RL.append h1 k1
    have e : (cs.drop (k * l.length)).take l.length ++ cs.drop ((k + 1) * l.length) = cs.drop (k * l.length) := by
      rw [Nat.add_mul, Nat.one_mul, ← List.drop_drop, List.take_append_drop]
    rwa [Nat.add_zero, e] at this

theorem rows_V {E : Env} {l : List Sh} {sz : Nat} (hl : l.length = sz) {g o : Nat} : ∀ (n k : Nat), (∀ i, i < n → ∃ (cs : List Value) (Vs : List V), (∀ j v, cs[j]? = some v → E.w.cell? ⟨g, o + (k + i) * sz + j, none⟩ = some v) ∧ RL E Vs cs ∧ LSh l Vs) →
    ∃ rows : List (List V), rows.length = n ∧ (∀ r ∈ rows, LSh l r) ∧ RRows E rows g (o + k * sz)
  | 0, k, _ => ⟨[], rfl, by simp, by simp only [RRows]⟩
  | n + 1, k, h => by
    obtain ⟨cs, Vs, hc, hR, hS⟩ := h 0 (by omega)
    obtain ⟨rows, h1, h2, h3⟩ := rows_V hl n (k + 1) (fun i hi => by have := h (i + 1) (by omega); rwa [show k + (i + 1) = k + 1 + i by omega] at this)
    refine ⟨Vs :: rows, by simp [h1], fun r hr => ?_, ?_⟩
    · rcases List.mem_cons.1 hr with rfl | hr
      · exact hS
      · exact h2 r hr
    · simp only [RRows]
      refine ⟨RRow_of_cells hR (fun j v hv => by simpa using hc j v hv) (fun c hc => (hS.tree c hc).2), ?_⟩
      rw [hS.length, hl, show o + k * sz + sz = o + (k + 1) * sz by rw [Nat.add_mul]; omega]
      exact h3

theorem trod_V {H : Type} {enc : TypeId × Value → H} {P : Program} {w : World} {base : Nat} {spare : Nat → Bool} {held : Bool} {E : Env} (hw : E.w = w) (hO : ∀ g, ¬ E.O g) :
    ∀ (k : Nat) (t : TypeId) (l : List Sh), shp P k t = some l → ∀ (fuel : Nat) (cs : List Value) (x : DataW H × List MemPlace), DataW.trod enc P w base spare held fuel t cs = some x → ∃ Vs, RL E Vs cs ∧ LSh l Vs := by
  intro k
  induction k with
  | zero => intro t l h; simp [shp] at h
  | succ k ih =>
    intro t l h fuel cs x hx
    simp only [shp] at h
    split at h
    · rename_i hd
      simp only [Option.some.injEq] at h; subst h
      obtain ⟨b, rfl, _⟩ := DataW.trod_bool hd hx
      exact ⟨[.bool b], by simp [RL, R], by simp [LSh, VSh]⟩
    · rename_i q hd
      simp only [Option.some.injEq] at h; subst h
      obtain ⟨n, rfl, _, hwf⟩ := DataW.trod_int hd hx
      exact ⟨[.int q n], by simp [RL, R], by simp [LSh, VSh, hwf]⟩
    · rename_i hd
      simp only [Option.some.injEq] at h; subst h
      obtain ⟨s, rfl, _, hs⟩ := DataW.trod_string hd hx
      exact ⟨[.str s], by simp [RL, R], by simp [LSh, VSh, hs]⟩
    · rename_i e hd
      split at h
      · rename_i l' hl'
        split at h
        · rename_i hc
          obtain ⟨hlen, hpos⟩ := hc
          simp only [Option.some.injEq] at h; subst h
          rcases DataW.trod_slice hd hx with ⟨rfl, _⟩ | ⟨a, len, cap, elems, rest, n, _, rfl, _, _, hcap, hml, _, hel, _⟩
          · refine ⟨[.rd (shLen l') []], by simp [RL, R], by simp only [LSh, VSh]; exact ⟨_, [], rfl, ⟨[], rfl, by simp, by simp⟩, rfl⟩⟩
          · by_cases h0 : len = 0
            · subst h0
              refine ⟨[.rd (shLen l') []], by simp only [RL, R]; exact ⟨_, _, rfl, ⟨some a, cap, rfl, by simp, by simp, .inl (by trivial)⟩, rfl⟩, by simp only [LSh, VSh]; exact ⟨_, [], rfl, ⟨[], rfl, by simp, by simp⟩, rfl⟩⟩
            · -- each element's cells
              have elem : ∀ i, i < len → ∃ cs, w.cells? base (a.add (i * P.cellsOf e)) (P.cellsOf e) = some cs ∧ ∃ Vs, RL E Vs cs ∧ LSh l' Vs := by
                intro i hi
                have h1 := hel i hi
                cases hcs : w.cells? base (a.add (i * P.cellsOf e)) (P.cellsOf e) with
                | none =>
                  rw [hcs] at h1
                  simp only [Option.bind_none] at h1
                  have := (List.getElem?_eq_none_iff.1 h1.symm)
                  omega
                | some cs =>
                  rw [hcs] at h1
                  simp only [Option.bind_some] at h1
                  cases htr : DataW.trod enc P w base spare held n e cs with
                  | none =>
                    rw [htr] at h1
                    have := (List.getElem?_eq_none_iff.1 h1.symm)
                    omega
                  | some y => exact ⟨cs, rfl, ih e l' hl' n cs y htr⟩
              -- the address
              obtain ⟨cs0, hcs0, _⟩ := elem 0 (by omega)
              obtain ⟨_, hc0⟩ := cells_of hcs0
              obtain ⟨v0, hv0, _⟩ := hc0 0 (by omega)
              simp only [Nat.zero_mul, Addr.add_zero'] at hv0
              obtain ⟨g, o, sp⟩ := a
              have hsp : sp = none := by
                unfold World.cell? at hv0
                split at hv0
                · cases sp <;> simp_all
                · exact absurd hv0 (by simp)
              subst hsp
              have hg : g < E.w.heap.size := by rw [hw]; exact World.block_lt_of_cell? w _ hv0
              obtain ⟨rows, hr1, hr2, hr3⟩ := rows_V (E := E) hlen (g := g) (o := o) len 0 (fun i hi => by
                obtain ⟨cs, hcs, Vs, hR, hS⟩ := elem i hi
                refine ⟨cs, Vs, fun j v hv => ?_, hR, hS⟩
                obtain ⟨h1, h2⟩ := cells_of hcs
                have hj : j < P.cellsOf e := by rw [← h1]; exact (List.getElem?_eq_some_iff.1 hv).1
                obtain ⟨u, hu1, hu2⟩ := h2 j hj
                rw [hv] at hu2
                simp only [Option.some.injEq] at hu2
                subst hu2
                rw [hw, ← hu1, Addr.add_lit, Addr.add_lit, Nat.zero_add])
              simp only [Nat.zero_mul, Nat.add_zero] at hr3
              refine ⟨[.rd (shLen l') rows], ?_, by simp only [LSh, VSh]; exact ⟨_, [], rfl, ⟨rows, rfl, by omega, hr2⟩, rfl⟩⟩
              simp only [RL, R]
              refine ⟨_, _, rfl, ⟨some ⟨g, o, none⟩, cap, by rw [hr1], by omega, by omega, .inr ⟨g, o, rfl, hO g, hg, fun r hr => ⟨by rw [(hr2 r hr).length, shLen_eq], fun c hc => ((hr2 r hr).tree c hc).1⟩, hr3⟩⟩, rfl⟩
        · exact absurd h (by simp)
      · exact absurd h (by simp)
    · rename_i fs hd
      split at h
      · rename_i l' hl'
        split at h
        · rename_i hlen
          simp only [Option.some.injEq] at h; subst h
          obtain ⟨xs, n, _, _, hcl, hxl, hf⟩ := DataW.trod_struct hd hx
          have := fields_V (E := E) (rec := shp P k) (rd := fun t cs => ∃ y, DataW.trod enc P w base spare held n t cs = some y) (fun t l cs h1 ⟨y, h2⟩ => ih t l h1 n cs y h2) fs.toList 0 l' cs hl' (by omega) (fun f hfm => by
            obtain ⟨i, hi⟩ := List.mem_iff_getElem?.1 hfm
            have h1 := hf i f (by simpa using hi)
            cases hxi : xs[i]? with
            | none =>
              have := List.getElem?_eq_none_iff.1 hxi
              have hlt := (List.getElem?_eq_some_iff.1 hi).1
              simp at hlt
              omega
            | some y => rw [hxi] at h1; exact ⟨y, h1⟩)
          simpa using this
        · exact absurd h (by simp)
      · exact absurd h (by simp)
    · rename_i n e hd
      split at h
      · rename_i l' hl'
        split at h
        · rename_i hlen
          simp only [Option.some.injEq] at h; subst h
          obtain ⟨xs, m, _, _, hcl, hxl, hf⟩ := DataW.trod_array hd hx
          have := rep_V (E := E) (l := l') (cs := cs) n 0 (fun i hi => by
            have h1 := hf i hi
            cases hxi : xs[i]? with
            | none =>
              have := List.getElem?_eq_none_iff.1 hxi
              omega
            | some y =>
              rw [hxi] at h1
              rw [Nat.zero_add, hlen.1]
              exact ih e l' hl' m _ y h1) (by rw [Nat.zero_add, hcl, hlen.2])
          simpa using this
        · exact absurd h (by simp)
      · exact absurd h (by simp)
    · exact absurd h (by simp)

/-- An argument, read: as an abstract value. -/
theorem Trod_V {H : Type} {enc : TypeId × Value → H} {P : Program} {w : World} {t : TypeId} {v : Value} {d : DataW H} {ps : List MemPlace} {base : Nat} {spare : Nat → Bool} {held : Bool} (h : DataW.Trod enc P w base spare held t v d ps) {E : Env} (hw : E.w = w) (hO : ∀ g, ¬ E.O g) {k : Nat} {l : List Sh} (hl : shp P k t = some l) :
    ∃ Vs, RL E Vs v.cells.toList ∧ LSh l Vs := by
  obtain ⟨fuel, hf⟩ := h
  exact trod_V hw hO k t l hl fuel _ _ hf
end Go.Proofs.YtbnjijffkjcmcaaDoor.AL
namespace Go.Proofs.YtbnjijffkjcmcaaDoor.AL
open Go

open Go.WideShapes Go.ChangeShapes
/-! ### A law's arguments -/
def argV (P : Program) (t : TypeId) (Vs : List V) : V :=
  match P.underlying t with
  | some (.struct _) => .agg Vs
  | some (.array _ _) => .agg Vs
  | _ => Vs.headD .junk
theorem arg_V {H : Type} {enc : TypeId × Value → H} {P : Program} {W : World} {t : TypeId} {v : Value} {d : DataW H} {ps : List MemPlace} {base base' : Nat} {spare : Nat → Bool} {held : Bool} {r : Reach} (h : DataW.Trod enc P W base spare held t v d ps)
    (hv : Value.okWide P W r base' t v) {E : Env} (hw : E.w = W) (hO : ∀ g, ¬ E.O g) {k : Nat} {l : List Sh} (hl : shp P k t = some l) :
    ∃ Vs, LSh l Vs ∧ R E (argV P t Vs) v := by
  obtain ⟨Vs, hR, hS⟩ := Trod_V h hw hO hl
  refine ⟨Vs, hS, ?_⟩
  have hv0 := hv
  unfold Value.okWide at hv
  unfold argV
  have plain : (∀ fs, P.underlying t ≠ some (.struct fs)) → (∀ n e, P.underlying t ≠ some (.array n e)) → ∃ s, l = [s] := by
    intro h1 h2
    cases k with
    | zero => simp [shp] at hl
    | succ k =>
      simp only [shp] at hl
      split at hl
      · simp only [Option.some.injEq] at hl; exact ⟨_, hl.symm⟩
      · simp only [Option.some.injEq] at hl; exact ⟨_, hl.symm⟩
      · simp only [Option.some.injEq] at hl; exact ⟨_, hl.symm⟩
      · split at hl
        · split at hl
          · simp only [Option.some.injEq] at hl; exact ⟨_, hl.symm⟩
          · exact absurd hl (by simp)
        · exact absurd hl (by simp)
      · rename_i fs hd; exact absurd hd (h1 fs)
      · rename_i n e hd; exact absurd hd (h2 n e)
      · exact absurd hl (by simp)
  have agg : (∃ cs, v = .agg cs ∧ cs.size = P.cellsOf t ∧ Row.okWide P W r base' t cs) → R E (.agg Vs) v := by
    rintro ⟨cs, rfl, _⟩
    simp only [R]
    exact ⟨cs.toList, by simp, by simpa [Value.cells] using hR⟩
  have one : (∃ s, l = [s]) → v.cells = #[v] → R E (Vs.headD .junk) v := by
    rintro ⟨s, rfl⟩ hc
    simp only [LSh] at hS
    obtain ⟨x, vs', rfl, hx, rfl⟩ := hS
    rw [hc] at hR
    simp only [RL] at hR
    obtain ⟨u, us, hcs, hRx, rfl⟩ := hR
    simp at hcs
    subst hcs
    simpa using hRx
  cases k with
  | zero => simp [shp] at hl
  | succ k =>
    cases hd : P.underlying t with
    | none => simp [shp, hd] at hl
    | some U =>
      cases U with
      | struct fs => simp only [hd] at hv; exact agg hv
      | array n e => simp only [hd] at hv; exact agg hv
      | bool => obtain ⟨b, rfl⟩ := okWide_bool hd hv0; exact one (plain (by simp [hd]) (by simp [hd])) rfl
      | int q => obtain ⟨b, rfl⟩ := okWide_int hd hv0; exact one (plain (by simp [hd]) (by simp [hd])) rfl
      | string => obtain ⟨b, rfl⟩ := okWide_string hd hv0; exact one (plain (by simp [hd]) (by simp [hd])) rfl
      | slice e => obtain ⟨a, len, cap, rfl⟩ := okWide_slice hd hv0; exact one (plain (by simp [hd]) (by simp [hd])) rfl
      | _ => simp [shp, hd] at hl

/-! ### A law that answers true and leaves its arguments alone -/
def shAll (P : Program) (k : Nat) : List TypeId → Option (List (List Sh))
  | [] => some []
  | t :: ts => match shp P k t, shAll P k ts with
    | some l, some ls => some (l :: ls)
    | _, _ => none
def ArgsV (P : Program) : List TypeId → List (List Sh) → List V → Prop
  | [], ls, vs => ls = [] ∧ vs = []
  | t :: ts, ls, vs => ∃ l ls' Vs vs', ls = l :: ls' ∧ vs = argV P t Vs :: vs' ∧ LSh l Vs ∧ ArgsV P ts ls' vs'

theorem args_V {H : Type} {enc : TypeId × Value → H} {P : Program} {W : World} {base base' : Nat} {spare : Nat → Bool} {held : Bool} {r : Reach} {E : Env} (hw : E.w = W) (hO : ∀ g, ¬ E.O g) {k : Nat} :
    ∀ {ts : List TypeId} {ls : List (List Sh)} {vs : List Value} {ds : List (DataW H)} {ps : List MemPlace}, DataW.TrodAll enc P W base spare held ts vs ds ps → shAll P k ts = some ls →
    (∀ (j : Nat) t v, ts[j]? = some t → vs[j]? = some v → Value.okWide P W r base' t v) → ∃ As, ArgsV P ts ls As ∧ RL E As vs
  | [], ls, vs, ds, ps, h, hl, hv => by
    obtain ⟨rfl, rfl, rfl⟩ := trodAll_nil h
    simp only [shAll, Option.some.injEq] at hl
    subst hl
    exact ⟨[], by simp [ArgsV], by simp [RL]⟩
  | t :: ts, ls, vs, ds, ps, h, hl, hv => by
    obtain ⟨v, vs', d, ds', p, q, rfl, rfl, rfl, h1, h2⟩ := trodAll_cons h
    simp only [shAll] at hl
    split at hl
    · rename_i l ls' hl1 hl2
      simp only [Option.some.injEq] at hl
      subst hl
      obtain ⟨Vs, k1, k2⟩ := arg_V h1 (hv 0 t v rfl rfl) hw hO hl1
      obtain ⟨As, j1, j2⟩ := args_V hw hO h2 hl2 (fun j t' v' e1 e2 => hv (j + 1) t' v' (by simpa using e1) (by simpa using e2))
      exact ⟨_, by simp only [ArgsV]; exact ⟨l, ls', Vs, As, rfl, rfl, k1, j1⟩, by simp only [RL]; exact ⟨_, _, rfl, k2, j2⟩⟩
    · exact absurd hl (by simp)

theorem args_behind {H : Type} {enc : TypeId × Value → H} {P : Program} {W W' : World} (hl : laidOutB P = true) (bel : Go.RowKit.Below W.heap.size W W') :
    ∀ {ts : List TypeId} {vs : List Value} {ds : List (DataW H)} {ps : List MemPlace}, DataW.TrodAll enc P W 0 (fun _ => true) true ts vs ds ps → (∀ t ∈ ts, P.readableRec t = true ∧ t < P.types.size) →
    ∃ qs, DataW.TrodAll enc P W' 0 (fun b => decide (b < W.heap.size)) true ts vs ds qs
  | [], vs, ds, ps, h, _ => by
    obtain ⟨rfl, rfl, rfl⟩ := trodAll_nil h
    exact ⟨[], rfl⟩
  | t :: ts, vs, ds, ps, h, ht => by
    obtain ⟨v, vs', d, ds', p, q, rfl, rfl, rfl, h1, h2⟩ := trodAll_cons h
    obtain ⟨qs, hq⟩ := args_behind hl bel h2 (fun t' h' => ht t' (by simp [h']))
    have lt : ∀ x ∈ p, x.block < W.heap.size := by obtain ⟨m, hm⟩ := h1; exact DataW.trod_lt m _ _ _ hm
    exact ⟨_, trodAll_cons_mk (Go.RowKit.Below.trod hl (ht t (by simp)).1 (ht t (by simp)).2 h1 bel lt) hq⟩

/-- The walk of a law, off its summary. -/
theorem law_calls {P : Program} [Gl P] {f : FuncId} {fn : Func} {c : Code} {As : List V} {vs : List Value} {W : World} (hf : P.funcs[f]? = some fn) (hn : fn.name ≠ "runtime.NumGoroutine") (hb : fn.body = some c)
    (h : Runs P f As ⟨.bool true, []⟩) (hG : GOK P ⟨W, fun _ => False, fun _ => undef, fun _ => False⟩) (hv : RL ⟨W, fun _ => False, fun _ => undef, fun _ => False⟩ As vs) :
    Calls P f vs.toArray W fun e W' => e = .returned (.bool true) ∧ Go.RowKit.Below W.heap.size W W' := by
  have h2 := h ⟨W, fun _ => False, fun _ => undef, fun _ => False⟩ vs (by simp) (by simp) hG hv
  unfold CalledX at h2
  rw [run_enter hf hn hb] at h2
  refine Calls.mono (h2 : Calls P f vs.toArray W _) fun e W' he => ?_
  cases e with
  | returned v =>
    obtain ⟨E', rfl, hp⟩ := he
    have hR := hp.R
    simp only [R] at hR
    subst hR
    exact ⟨rfl, hp.ev.os, hp.ev.tape, hp.ev.output, hp.ev.size, fun k hk => hp.ev.blk k hk⟩
  | panicked ch => exact he.elim
  | outgrown => exact he.elim

section
variable {H : Type} {enc : TypeId × Value → H}
theorem law_lifted {C : Checked} [Gl C.prog] {os : Os} {f : FuncId} {fn : Func} {c : Code} {s : ChangeSpec} {apart fresh handsOn : Bool} {tb : TypeId} {k : Nat} {ls : List (List Sh)}
    (own : ownKnob C.prog.godebug = none) (laidOut : laidOutB C.prog = true) (started : os.Started) (noInit : C.prog.inits.idxOf? f = none) (hf : C.prog.funcs[f]? = some fn) (hn : fn.name ≠ "runtime.NumGoroutine") (hb : fn.body = some c)
    (hvars : s.vars = []) (hres : fn.resultTypes = #[tb]) (htb : C.prog.underlying tb = some .bool) (hpar : ∀ t ∈ fn.params.toList, C.prog.readableRec t = true ∧ t < C.prog.types.size)
    (hspec : ∀ ds : List (DataW H), ds.length = fn.params.size → s.fn H ds = { results := [.lit (.bool true)], args := ds })
    (witness : ∃ (w : World) (tape : Tape) (i : Input), w.os = os ∧ (w.forCall tape i).Shaped C.prog ∧ i.vars = [] ∧ Input.okWide C.prog (w.forCall tape i) .any w.heap.size f i ∧
      s.pre6 enc C.prog fn [] apart (w.forCall tape i).memory i.args ∧ ({} : Assume).holds C.prog (lone (Frame.enter C.prog f i.args .normal) [] (w.forCall tape i)))
    (hsh : shAll C.prog k fn.params.toList = some ls)
    (hglob : ∀ W : World, GOK C.prog ⟨W, fun _ => False, fun _ => undef, fun _ => False⟩)
    (hruns : ∀ As, ArgsV C.prog fn.params.toList ls As → Runs C.prog f As ⟨.bool true, []⟩) :
    ReturnsInHanded {} C os f .any (s.pre6 enc C.prog fn [] apart) (s.post enc C.prog fn apart fresh handsOn false) := by
  refine returnsInHanded_of_change (C := C) own started noInit hf witness ?_
  intro W base args ds gs before hval hW _ _
  have hW' := hW
  obtain ⟨p, q, hA, hV, rfl, hfz, hnd⟩ := hW
  rw [hvars] at hV
  obtain ⟨rfl, rfl⟩ := trodVars_none hV
  obtain ⟨As, h1, h2⟩ := args_V (E := ⟨W, fun _ => False, fun _ => undef, fun _ => False⟩) rfl (by simp) hA hsh (fun j t v e1 e2 => hval j t v (by simpa using e1) (by simpa using e2))
  have hlen : ds.length = fn.params.size := by
    have : ∀ {ts : List TypeId} {vs : List Value} {ds : List (DataW H)} {ps : List MemPlace}, DataW.TrodAll enc C.prog W 0 (fun _ => true) true ts vs ds ps → ds.length = ts.length := by
      intro ts
      induction ts with
      | nil => intro vs ds ps h; obtain ⟨_, rfl, _⟩ := trodAll_nil h; rfl
      | cons t ts ih =>
        intro vs ds ps h
        obtain ⟨_, _, _, _, _, _, _, rfl, _, _, h2⟩ := trodAll_cons h
        simp [ih h2]
    simpa using this hA
  have hc := law_calls (vs := args.toList) hf hn hb (hruns As h1) (hglob W) h2
  rw [show args.toList.toArray = args by simp] at hc
  refine hc.mono fun e W' ⟨he, bel⟩ => ?_
  subst he
  obtain ⟨qs, hq⟩ := args_behind laidOut bel hA hpar
  refine ⟨_, rfl, ds, [], _, [], qs, [], hW', ?_, ?_, ?_, bel.frame _, fun h => by cases h⟩
  · rw [List.append_nil, hspec ds hlen, hres]
    exact trodAll_mk1 (Go.RowKit.shut_bool htb _)
  · rw [List.append_nil, hspec ds hlen]
    exact hq
  · rw [List.append_nil, hspec ds hlen, hvars]
    rfl
end
end Go.Proofs.YtbnjijffkjcmcaaDoor.AL
namespace Go.Proofs.YtbnjijffkjcmcaaDoor.AL
open Go

/-! ### Structs compare as their cells do -/
def SSh : Sh → V → Bool
  | .int k, .int k' _ => decide (k' = k)
  | .bool, .bool _ => true
  | .str, .str _ => true
  | _, _ => false
def LSS : List Sh → List V → Bool
  | [], [] => true
  | s :: ss, v :: vs => SSh s v && LSS ss vs
  | _, _ => false
def isAggT (P : Program) (t : TypeId) : Bool :=
  match P.underlying t with
  | some (.struct _) | some (.array _ _) => true
  | _ => false
def vOf (P : Program) (t : TypeId) (us : List Value) : Value := if isAggT P t then .agg us.toArray else us.headD undef
def eqOk (P : Program) : Nat → TypeId → Bool
  | 0, _ => false
  | k + 1, t => match P.underlying t with
    | some .bool | some (.int _) | some .string => true
    | some (.struct fs) => fs.toList.all (fun f => f.name != "_" && eqOk P k f.type) && !P.stoodInHeld t
    | some (.array _ e) => eqOk P k e
    | _ => false

theorem LSS_append : ∀ {l m : List Sh} {xs : List V}, LSS (l ++ m) xs = true → LSS l (xs.take l.length) = true ∧ LSS m (xs.drop l.length) = true
  | [], m, xs, h => by simpa [LSS] using h
  | s :: ss, m, [], h => by simp [LSS] at h
  | s :: ss, m, x :: xs, h => by
    simp only [List.cons_append, LSS, Bool.and_eq_true] at h
    have := LSS_append h.2
    simp [LSS, h.1, this.1, this.2]
theorem LSS_len : ∀ {l : List Sh} {xs : List V}, LSS l xs = true → xs.length = l.length
  | [], [], _ => rfl
  | [], _ :: _, h => by simp [LSS] at h
  | _ :: _, [], h => by simp [LSS] at h
  | s :: ss, x :: xs, h => by
    simp only [LSS, Bool.and_eq_true] at h
    simp [LSS_len h.2]
theorem peqs_append : ∀ {a c b d : List V}, a.length = c.length → peqs (a ++ b) (c ++ d) = (peqs a c && peqs b d)
  | [], [], b, d, _ => by simp [peqs]
  | [], _ :: _, b, d, h => by simp at h
  | _ :: _, [], b, d, h => by simp at h
  | x :: a, y :: c, b, d, h => by
    simp only [List.cons_append, peqs]
    rw [peqs_append (by simpa using h), Bool.and_assoc]
theorem RL_take {E : Env} : ∀ {xs : List V} {us : List Value} (n : Nat), RL E xs us → RL E (xs.take n) (us.take n) ∧ RL E (xs.drop n) (us.drop n)
  | [], us, n, h => by
    simp only [RL] at h
    subst h
    simp [RL]
  | x :: xs, us, n, h => by
    simp only [RL] at h
    obtain ⟨u, us', rfl, h1, h2⟩ := h
    cases n with
    | zero => simp only [List.take_zero, List.drop_zero]; exact ⟨by simp [RL], by simp only [RL]; exact ⟨u, us', rfl, h1, h2⟩⟩
    | succ n =>
      obtain ⟨k1, k2⟩ := RL_take n h2
      exact ⟨by simp only [List.take_succ_cons, RL]; exact ⟨u, _, rfl, h1, k1⟩, by simpa using k2⟩

theorem run_part_vOf {P : Program} {w : World} {e : TypeId} {xs : Array Value} {off k : Nat} {l : List Sh} (hl : shp P k e = some l) (hlen : l.length = P.cellsOf e) (hin : off + l.length ≤ xs.size) :
    (part e xs off).run P w = .ok (vOf P e ((xs.toList.drop off).take l.length)) w := by
  cases k with
  | zero => simp [shp] at hl
  | succ k =>
    cases hu : P.underlying e with
    | none => simp [shp, hu] at hl
    | some U =>
      obtain ⟨i, hi⟩ := info_of_underlying hu
      have agg : isAggT P e = true → (match U with | .struct _ | .array _ _ => True | _ => False) → (part e xs off).run P w = .ok (vOf P e ((xs.toList.drop off).take l.length)) w := by
        intro ha hU
        have e1 : (xs.extract off (off + P.cellsOf e)) = ((xs.toList.drop off).take l.length).toArray := by
          apply Array.toList_inj.1
          rw [Array.toList_extract, hlen]
          simp [List.extract]
        unfold vOf
        rw [if_pos ha, ← e1]
        cases U <;> simp_all [part, isAgg, run_underlying hu, run_sizeOf w hi]
      have one : isAggT P e = false → l.length = 1 → (match U with | .struct _ | .array _ _ => False | _ => True) → (part e xs off).run P w = .ok (vOf P e ((xs.toList.drop off).take l.length)) w := by
        intro ha h1 hU
        rw [h1] at hin ⊢
        obtain ⟨v, hv⟩ : ∃ v, xs[off]? = some v := ⟨xs[off], by simp⟩
        have e1 : (xs.toList.drop off).take 1 = [v] := by
          have : xs.toList[off]? = some v := by simpa using hv
          rw [List.take_one, List.head?_drop, this]; rfl
        unfold vOf
        rw [e1]
        have hb : (isAgg e).run P w = .ok false w := by
          cases U <;> simp_all [isAgg, run_underlying hu]
        simp [part, hb, hv, ha]
      cases U <;> simp only [shp, hu] at hl <;> try (cases hl; done)
      case struct fs => exact agg (by simp [isAggT, hu]) trivial
      case array n e => exact agg (by simp [isAggT, hu]) trivial
      case slice e =>
        refine one (by simp [isAggT, hu]) ?_ trivial
        split at hl
        · split at hl
          · simp only [Option.some.injEq] at hl; subst hl; rfl
          · exact absurd hl (by simp)
        · exact absurd hl (by simp)
      all_goals (simp only [Option.some.injEq] at hl; subst hl; exact one (by simp [isAggT, hu]) rfl trivial)

def EqS (P : Program) (d : Nat) (t : TypeId) (l : List Sh) : Prop :=
  ∀ (E : Env) (xs ys : List V) (us vs : List Value), LSS l xs = true → LSS l ys = true → RL E xs us → RL E ys vs →
    (Op.equalIn d t (vOf P t us) (vOf P t vs)).run P E.w = .ok (peqs xs ys) E.w

theorem eqFields_S {P : Program} {d k : Nat} (IH : ∀ t l, shp P k t = some l → eqOk P k t = true → EqS P d t l) {E : Env} {us vs : Array Value} :
    ∀ (fs : List Field) (off : Nat) (ls : List Sh) (xs ys : List V), shFields (shp P k) P off fs = some ls → (∀ f ∈ fs, f.name ≠ "_" ∧ eqOk P k f.type = true) →
    LSS ls xs = true → LSS ls ys = true → RL E xs (us.toList.drop off) → RL E ys (vs.toList.drop off) → off + ls.length = us.size → off + ls.length = vs.size →
    (Op.eqFields d us vs fs).run P E.w = .ok (peqs xs ys) E.w
  | [], off, ls, xs, ys, h, _, hx, hy, _, _, _, _ => by
    simp only [shFields, Option.some.injEq] at h
    subst h
    have := LSS_len hx
    have := LSS_len hy
    simp_all [Op.eqFields, peqs]
  | f :: fs, off, ls, xs, ys, h, hf, hx, hy, hrx, hry, hu, hv => by
    simp only [shFields] at h
    split at h
    · rename_i hoff
      split at h
      · rename_i l hrf
        split at h
        · rename_i hlen
          split at h
          · rename_i ls' hls
            simp only [Option.some.injEq] at h
            subst h
            obtain ⟨x1, x2⟩ := LSS_append hx
            obtain ⟨y1, y2⟩ := LSS_append hy
            obtain ⟨rx1, rx2⟩ := RL_take l.length hrx
            obtain ⟨ry1, ry2⟩ := RL_take l.length hry
            rw [List.drop_drop] at rx2 ry2
            rw [List.length_append] at hu hv
            obtain ⟨hn, hok⟩ := hf f (by simp)
            have hp1 := run_part_vOf (w := E.w) (xs := us) (off := off) hrf hlen (by omega)
            have hp2 := run_part_vOf (w := E.w) (xs := vs) (off := off) hrf hlen (by omega)
            have he := IH f.type l hrf hok E _ _ _ _ x1 y1 rx1 ry1
            have ht := eqFields_S IH fs (off + l.length) ls' _ _ hls (fun g hg => hf g (by simp [hg])) x2 y2 rx2 ry2 (by omega) (by omega)
            have e : peqs xs ys = (peqs (xs.take l.length) (ys.take l.length) && peqs (xs.drop l.length) (ys.drop l.length)) := by
              have h1 := LSS_len x1
              have h2 := LSS_len y1
              rw [← peqs_append (by omega), List.take_append_drop, List.take_append_drop]
            rw [e]
            simp only [Op.eqFields, hn, ne_eq, not_false_eq_true, if_true, Sem.run_bind, hoff, hp1, hp2, he, Result.andThen_ok]
            cases hb : peqs (xs.take l.length) (ys.take l.length)
            · simp
            · simpa using ht
          · exact absurd h (by simp)
        · exact absurd h (by simp)
      · exact absurd h (by simp)
    · exact absurd h (by simp)

theorem eqItems_S {P : Program} {d k : Nat} {e : TypeId} {l : List Sh} (IH : EqS P d e l) (hl : shp P k e = some l) (hlen : l.length = P.cellsOf e) {E : Env} {us vs : Array Value} :
    ∀ (n j : Nat) (xs ys : List V), LSS (shRep l n) xs = true → LSS (shRep l n) ys = true → RL E xs (us.toList.drop (j * l.length)) → RL E ys (vs.toList.drop (j * l.length)) → (j + n) * l.length = us.size → (j + n) * l.length = vs.size →
    (Op.eqItems d e (P.cellsOf e) us vs (List.range' j n)).run P E.w = .ok (peqs xs ys) E.w
  | 0, j, xs, ys, hx, hy, _, _, _, _ => by
    have := LSS_len hx
    have := LSS_len hy
    simp_all [Op.eqItems, peqs, shRep]
  | n + 1, j, xs, ys, hx, hy, hrx, hry, hu, hv => by
    simp only [shRep] at hx hy
    obtain ⟨x1, x2⟩ := LSS_append hx
    obtain ⟨y1, y2⟩ := LSS_append hy
    obtain ⟨rx1, rx2⟩ := RL_take l.length hrx
    obtain ⟨ry1, ry2⟩ := RL_take l.length hry
    rw [List.drop_drop, show j * l.length + l.length = (j + 1) * l.length by rw [Nat.add_mul]; omega] at rx2 ry2
    have hin : j * l.length + l.length ≤ (j + (n + 1)) * l.length := by
      have : (j + (n + 1)) * l.length = j * l.length + l.length + n * l.length := by
        rw [Nat.add_mul, Nat.add_mul]; omega
      omega
    have hp1 := run_part_vOf (w := E.w) (xs := us) (off := j * l.length) hl hlen (by omega)
    have hp2 := run_part_vOf (w := E.w) (xs := vs) (off := j * l.length) hl hlen (by omega)
    have he := IH E _ _ _ _ x1 y1 rx1 ry1
    have ht := eqItems_S IH hl hlen n (j + 1) _ _ x2 y2 rx2 ry2 (by rw [← hu]; congr 1; omega) (by rw [← hv]; congr 1; omega)
    have e' : peqs xs ys = (peqs (xs.take l.length) (ys.take l.length) && peqs (xs.drop l.length) (ys.drop l.length)) := by
      have h1 := LSS_len x1
      have h2 := LSS_len y1
      rw [← peqs_append (by omega), List.take_append_drop, List.take_append_drop]
    rw [e']
    simp only [List.range'_succ, Op.eqItems, Sem.run_bind, ← hlen, hp1, hp2, he, Result.andThen_ok]
    cases hb : peqs (xs.take l.length) (ys.take l.length)
    · simp
    · rw [← hlen] at ht; simpa using ht

theorem equalIn_S {P : Program} (d : Nat) : ∀ (k : Nat) (t : TypeId) (l : List Sh), shp P k t = some l → eqOk P k t = true → EqS P (d + k) t l := by
  intro k
  induction k with
  | zero => intro t l h; simp [shp] at h
  | succ k ih =>
    intro t l h hk E xs ys us vs hx hy hrx hry
    have plain : ∀ s, l = [s] → isAggT P t = false → ∃ x y u v, xs = [x] ∧ ys = [y] ∧ us = [u] ∧ vs = [v] ∧ SSh s x = true ∧ SSh s y = true ∧ R E x u ∧ R E y v ∧ vOf P t us = u ∧ vOf P t vs = v := by
      intro s hs ha
      subst hs
      match xs, ys, hx, hy with
      | [x], [y], hx, hy =>
        simp only [LSS, Bool.and_true] at hx hy
        simp only [RL] at hrx hry
        obtain ⟨u, _, rfl, h1, rfl⟩ := hrx
        obtain ⟨v, _, rfl, h2, rfl⟩ := hry
        exact ⟨x, y, u, v, rfl, rfl, rfl, rfl, hx, hy, h1, h2, by simp [vOf, ha], by simp [vOf, ha]⟩
      | [], _, hx, _ => simp [LSS] at hx
      | _, [], _, hy => simp [LSS] at hy
      | _ :: _ :: _, _, hx, _ => simp [LSS] at hx
      | [_], _ :: _ :: _, _, hy => simp [LSS] at hy
    cases hu : P.underlying t with
    | none => simp [shp, hu] at h
    | some U =>
      cases U <;> simp only [shp, hu] at h <;> simp only [eqOk, hu, Bool.false_eq_true] at hk <;> try (cases h; done)
      case bool =>
        simp only [Option.some.injEq] at h
        obtain ⟨x, y, u, v, rfl, rfl, rfl, rfl, sx, sy, r1, r2, e1, e2⟩ := plain _ h.symm (by simp [isAggT, hu])
        rw [e1, e2]
        cases x <;> simp [SSh] at sx
        cases y <;> simp [SSh] at sy
        simp only [R] at r1 r2
        subst r1 r2
        simp [← Nat.add_assoc, Op.equalIn, run_underlying hu, peqs, peq, beq_dec]
      case int q =>
        simp only [Option.some.injEq] at h
        obtain ⟨x, y, u, v, rfl, rfl, rfl, rfl, sx, sy, r1, r2, e1, e2⟩ := plain _ h.symm (by simp [isAggT, hu])
        rw [e1, e2]
        cases x <;> simp [SSh] at sx
        cases y <;> simp [SSh] at sy
        simp only [R] at r1 r2
        subst r1 r2 sx sy
        simp [← Nat.add_assoc, Op.equalIn, run_underlying hu, peqs, peq, beq_dec]
      case string =>
        simp only [Option.some.injEq] at h
        obtain ⟨x, y, u, v, rfl, rfl, rfl, rfl, sx, sy, r1, r2, e1, e2⟩ := plain _ h.symm (by simp [isAggT, hu])
        rw [e1, e2]
        cases x <;> simp [SSh] at sx
        cases y <;> simp [SSh] at sy
        rename_i a b
        simp only [R] at r1 r2
        subst r1 r2
        have hab : (a == b) = (a.toList == b.toList) := by
          have h0 : (a == b) = (a.data == b.data) := rfl
          have h1 : (a.data = b.data) ↔ (a.data.toList = b.data.toList) := ⟨fun h => by rw [h], fun h => Array.toList_inj.1 h⟩
          rw [h0, ByteArray.toList_eq, ByteArray.toList_eq]
          by_cases hq : a.data = b.data
          · simp [hq]
          · have : ¬ a.data.toList = b.data.toList := fun h => hq (h1.2 h)
            rw [beq_eq_false_iff_ne.2 hq, beq_eq_false_iff_ne.2 this]
        simp only [← Nat.add_assoc, Op.equalIn, Sem.run_bind, run_underlying hu, Result.andThen_ok, Sem.run_pure, peqs, peq, hab, Bool.and_true, beq_dec]
      case struct fs =>
        split at h
        · rename_i l' hl'
          split at h
          · rename_i hlen
            simp only [Option.some.injEq] at h; subst h
            simp only [Bool.and_eq_true, List.all_eq_true, bne_iff_ne, ne_eq, Bool.not_eq_true'] at hk
            have hfs : P.fieldsOf t = fs := by simp [Program.fieldsOf, hu]
            have hux := LSS_len hx
            have huy := LSS_len hy
            have hxl := hrx.length
            have hyl := hry.length
            have := eqFields_S (E := E) (d := d + k) (us := us.toArray) (vs := vs.toArray) (fun t l h1 h2 => ih t l h1 h2) fs.toList 0 l' xs ys hl' (fun f hf => hk.1 f hf) hx hy (by simpa using hrx) (by simpa using hry) (by simp; omega) (by simp; omega)
            simp only [vOf, isAggT, hu, if_true]
            rw [show d + (k + 1) = (d + k) + 1 from rfl, run_equalIn_struct E.w (d + k) t _ _ (by rw [hfs]; exact hu) hk.2, hfs]
            exact this
          · exact absurd h (by simp)
        · exact absurd h (by simp)
      case array n e =>
        split at h
        · rename_i l' hl'
          split at h
          · rename_i hlen
            simp only [Option.some.injEq] at h; subst h
            have hux := LSS_len hx
            have huy := LSS_len hy
            have hxl := hrx.length
            have hyl := hry.length
            have hrl : ∀ m, (shRep l' m).length = m * l'.length := by
              intro m
              induction m with
              | zero => simp [shRep]
              | succ m ihm => simp [shRep, ihm, Nat.add_mul]; omega
            have hrn := hrl n
            obtain ⟨i, hi⟩ : ∃ i, P.info? e = some i := by
              cases k with
              | zero => simp [shp] at hl'
              | succ k' =>
                cases hue : P.underlying e with
                | none => simp [shp, hue] at hl'
                | some _ => exact info_of_underlying hue
            have := eqItems_S (E := E) (d := d + k) (us := us.toArray) (vs := vs.toArray) (ih e l' hl' hk) hl' hlen.1 n 0 xs ys hx hy (by simpa using hrx) (by simpa using hry) (by simp; omega) (by simp; omega)
            simp only [vOf, isAggT, hu, if_true]
            rw [show d + (k + 1) = (d + k) + 1 from rfl, run_equalIn_array E.w (d + k) _ _ hu hi, List.range_eq_range']
            exact this
          · exact absurd h (by simp)
        · exact absurd h (by simp)

/-- What 'EqA' asks, for a type of ints, bools, strings and structs of such. -/
theorem EqA_of {P : Program} {t : TypeId} {l : List Sh} (k : Nat) (hl : shp P k t = some l) (hk : eqOk P k t = true) (ha : isAggT P t = true) (hg : P.eqGuardType P.depth t = false) (hk9 : k ≤ 10000) {xs ys : List V} (hx : LSS l xs = true) (hy : LSS l ys = true) : EqA P t xs ys := by
  intro E us vs op x y hrx hry
  constructor
  · unfold eqGuard
    split
    · simp
      intro h; rw [hg] at h; cases h
    · simp
      intro h; rw [hg] at h; cases h
    · simp
  · have := equalIn_S (P := P) (10000 - k) k t l hl hk E xs ys us vs hx hy hrx hry
    rw [show 10000 - k + k = 10000 by omega] at this
    simpa [Op.equal, Op.maxDepth, vOf, ha] using this
end Go.Proofs.YtbnjijffkjcmcaaDoor.AL
