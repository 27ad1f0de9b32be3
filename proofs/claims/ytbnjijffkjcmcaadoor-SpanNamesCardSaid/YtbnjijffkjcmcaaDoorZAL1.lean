import Derived.Tactics
import Derived.Orders
import Derived.Laws.AppendOwn
import Derived.Below
import Derived.KernelRfl
import Derived.RangeFuncLeaves
import Derived.OrdersIn
import Derived.RangeFuncRecord
import Derived.Laws.BytesString
/- A logic of abstract values for walking functions: a part of the proof; no conditions. -/
set_option linter.unusedVariables false
set_option linter.unusedSimpArgs false
set_option linter.unusedSectionVars false
namespace Go.Proofs.YtbnjijffkjcmcaaDoor.AL
open Go

/-- What is known of a value. -/
inductive V where
  | int (k : IntKind) (n : Int)
  | bool (b : Bool)
  | str (s : ByteArray)
  | nilp
  | nils
  | nilfn
  | nilif
  | nilm
  | bany
  | iany (k : IntKind)
  | rd (sz : Nat) (rows : List (List V))
  | own (b : Nat)
  | ptr (b off : Nat)
  | eptr (b sz i off : Nat)
  | rptr (row : List V) (off : Nat)
  | fn (f : FuncId) (fi caps : List V)
  | yld (b : Nat)
  | mp (b : Nat)
  | mrd (ks vs : List V)
  | iface (t : TypeId) (v : V)
  | agg (cs : List V)
  | tup (vs : List V)
  | junk
  deriving Inhabited

mutual
/-- Names no block of the call's own. -/
def V.clean : V → Bool
  | .own _ | .ptr _ _ | .eptr _ _ _ _ | .yld _ | .mp _ => false
  | .agg cs => cleanL cs
  | .tup cs => cleanL cs
  | .fn _ fi cs => cleanL fi && cleanL cs
  | .iface _ v => v.clean
  | _ => true
def cleanL : List V → Bool
  | [] => true
  | c :: cs => c.clean && cleanL cs
end
def V.one : V → Bool
  | .agg _ | .tup _ | .junk => false
  | _ => true
/-- The value of one cell that names no block of the call's own. -/
def V.tree (x : V) : Bool := x.one && x.clean
theorem V.tree_one {x : V} (h : x.tree = true) : x.one = true := by simp only [V.tree, Bool.and_eq_true] at h; exact h.1
theorem V.tree_clean {x : V} (h : x.tree = true) : x.clean = true := by simp only [V.tree, Bool.and_eq_true] at h; exact h.2

structure Env where
  w : World
  O : Nat → Prop
  σ : Nat → Value
  D : Nat → Prop

mutual
def R (E : Env) : V → Value → Prop
  | .int k n, v => v = .int k n
  | .bool b, v => v = .bool b
  | .str s, v => v = .string s
  | .nilp, v => v = .pointer none
  | .nils, v => v = .slice none 0 0
  | .nilfn, v => v = .nilFunc
  | .nilif, v => v = .nilIface
  | .nilm, v => v = .map none
  | .bany, v => ∃ b, v = .bool b
  | .iany k, v => ∃ n, v = .int k n
  | .rd sz rows, v => ∃ ad cap, v = .slice ad rows.length cap ∧ rows.length ≤ cap ∧ rows.length ≤ maxLen ∧
      (rows = [] ∨ ∃ g o, ad = some ⟨g, o, none⟩ ∧ ¬ E.O g ∧ g < E.w.heap.size ∧ (∀ r ∈ rows, r.length = sz ∧ ∀ c ∈ r, c.tree = true) ∧ RRows E rows g o)
  | .own b, v => E.D b ∧ v = E.σ b ∧ ∃ ad n c, v = .slice ad n c
  | .ptr b off, v => E.D b ∧ ∃ g, E.σ b = .pointer (some ⟨g, 0, none⟩) ∧ v = .pointer (some ⟨g, off, none⟩)
  | .eptr b sz i off, v => E.D b ∧ ∃ g n cap, E.σ b = .slice (some ⟨g, 0, none⟩) n cap ∧ v = .pointer (some ⟨g, i * sz + off, none⟩)
  | .rptr row off, v => ∃ g o, v = .pointer (some ⟨g, o + off, none⟩) ∧ ¬ E.O g ∧ g < E.w.heap.size ∧ (∀ c ∈ row, c.tree = true) ∧ RRow E row g o
  | .fn f fi caps, v => ∃ us vs : List Value, v = .func (.func f) us.toArray vs.toArray ∧ RL E fi us ∧ RL E caps vs
  | .yld b, v => E.D b ∧ ∃ g, E.σ b = .pointer (some ⟨g, 0, none⟩) ∧ v = .func (.yield g) #[] #[]
  | .mp b, v => E.D b ∧ v = E.σ b ∧ ∃ g, v = .map (some g)
  | .mrd ks vs, v => ∃ g arr clk, v = .map (some g) ∧ ¬ E.O g ∧ g < E.w.heap.size ∧ cleanL ks = true ∧ cleanL vs = true ∧ E.w.heap[g]? = some (.map arr clk) ∧
      RL E ks (arr.toList.map (·.key)) ∧ RL E vs (arr.toList.map (·.val))
  | .iface t x, v => ∃ u, v = .iface t u ∧ R E x u
  | .agg cs, v => ∃ vs : List Value, v = .agg vs.toArray ∧ RL E cs vs
  | .tup cs, v => ∃ vs : List Value, v = .tuple vs.toArray ∧ RL E cs vs
  | .junk, _ => True
def RL (E : Env) : List V → List Value → Prop
  | [], vs => vs = []
  | c :: cs, vs => ∃ v vs', vs = v :: vs' ∧ R E c v ∧ RL E cs vs'
def RRow (E : Env) : List V → Nat → Nat → Prop
  | [], _, _ => True
  | c :: cs, g, o => (∃ v, E.w.cell? ⟨g, o, none⟩ = some v ∧ v.oneCell' = true ∧ R E c v) ∧ RRow E cs g (o + 1)
def RRows (E : Env) : List (List V) → Nat → Nat → Prop
  | [], _, _ => True
  | r :: rs, g, o => RRow E r g o ∧ RRows E rs g (o + r.length)
end

structure Env.le (E E' : Env) : Prop where
  D : ∀ b, E.D b → E'.D b
  σ : ∀ b, E.D b → E'.σ b = E.σ b
  size : E.w.heap.size ≤ E'.w.heap.size
  blk : ∀ g, g < E.w.heap.size → ¬ E.O g → E'.w.heap[g]? = E.w.heap[g]? ∧ ¬ E'.O g
/-- What memory must keep for what may only be read. -/
structure Env.le0 (E E' : Env) : Prop where
  size : E.w.heap.size ≤ E'.w.heap.size
  blk : ∀ g, g < E.w.heap.size → ¬ E.O g → E'.w.heap[g]? = E.w.heap[g]? ∧ ¬ E'.O g
theorem Env.le.le0 {E E' : Env} (h : E.le E') : E.le0 E' := ⟨h.size, h.blk⟩

mutual
theorem R.clean {E E' : Env} (h : E.le0 E') : ∀ (x : V) (v : Value), x.clean = true → R E x v → R E' x v
  | .int k n, v, _, hv => by simpa only [R] using hv
  | .bool b, v, _, hv => by simpa only [R] using hv
  | .str s, v, _, hv => by simpa only [R] using hv
  | .nilp, v, _, hv => by simpa only [R] using hv
  | .nils, v, _, hv => by simpa only [R] using hv
  | .nilfn, v, _, hv => by simpa only [R] using hv
  | .nilif, v, _, hv => by simpa only [R] using hv
  | .nilm, v, _, hv => by simpa only [R] using hv
  | .bany, v, _, hv => by simpa only [R] using hv
  | .iany k, v, _, hv => by simpa only [R] using hv
  | .rd sz rows, v, _, hv => by
    simp only [R] at hv ⊢
    obtain ⟨ad, cap, rfl, h1, h2, h3⟩ := hv
    refine ⟨ad, cap, rfl, h1, h2, ?_⟩
    rcases h3 with h3 | ⟨g, o, rfl, hO, hg, hl, hr⟩
    · exact .inl h3
    · obtain ⟨e1, e2⟩ := h.blk g hg hO
      exact .inr ⟨g, o, rfl, e2, Nat.lt_of_lt_of_le hg h.size, hl, RRows.mono0 h rows g o e1 (fun r hr => (hl r hr).2) hr⟩
  | .rptr row off, v, _, hv => by
    simp only [R] at hv ⊢
    obtain ⟨g, o, rfl, hO, hg, ht, hr⟩ := hv
    obtain ⟨e1, e2⟩ := h.blk g hg hO
    exact ⟨g, o, rfl, e2, Nat.lt_of_lt_of_le hg h.size, ht, RRow.mono0 h row g o e1 ht hr⟩
  | .mrd ks vs, v, _, hv => by
    simp only [R] at hv ⊢
    obtain ⟨g, arr, clk, rfl, hO, hg, h1, h2, hh, h3, h4⟩ := hv
    obtain ⟨e1, e2⟩ := h.blk g hg hO
    exact ⟨g, arr, clk, rfl, e2, Nat.lt_of_lt_of_le hg h.size, h1, h2, e1.trans hh, RL.clean h ks _ h1 h3, RL.clean h vs _ h2 h4⟩
  | .own b, v, ht, hv => by simp [V.clean] at ht
  | .ptr b off, v, ht, hv => by simp [V.clean] at ht
  | .eptr b sz i off, v, ht, hv => by simp [V.clean] at ht
  | .yld b, v, ht, hv => by simp [V.clean] at ht
  | .mp b, v, ht, hv => by simp [V.clean] at ht
  | .fn f fi caps, v, hc, hv => by
    simp only [R, V.clean, Bool.and_eq_true] at hv hc ⊢
    obtain ⟨us, vs, rfl, h1, h2⟩ := hv
    exact ⟨us, vs, rfl, RL.clean h fi us hc.1 h1, RL.clean h caps vs hc.2 h2⟩
  | .iface t x, v, hc, hv => by
    simp only [R, V.clean] at hv hc ⊢
    obtain ⟨u, rfl, hr⟩ := hv
    exact ⟨u, rfl, R.clean h x u hc hr⟩
  | .agg cs, v, hc, hv => by
    simp only [R, V.clean] at hv hc ⊢
    obtain ⟨vs, rfl, hr⟩ := hv
    exact ⟨vs, rfl, RL.clean h cs vs hc hr⟩
  | .tup cs, v, hc, hv => by
    simp only [R, V.clean] at hv hc ⊢
    obtain ⟨vs, rfl, hr⟩ := hv
    exact ⟨vs, rfl, RL.clean h cs vs hc hr⟩
  | .junk, v, _, hv => by simp only [R]
theorem RL.clean {E E' : Env} (h : E.le0 E') : ∀ (cs : List V) (vs : List Value), cleanL cs = true → RL E cs vs → RL E' cs vs
  | [], vs, _, hv => by simpa only [RL] using hv
  | c :: cs, vs, hc, hv => by
    simp only [RL, cleanL, Bool.and_eq_true] at hv hc ⊢
    obtain ⟨v, vs', rfl, h1, h2⟩ := hv
    exact ⟨v, vs', rfl, R.clean h c v hc.1 h1, RL.clean h cs vs' hc.2 h2⟩
theorem RRow.mono0 {E E' : Env} (h : E.le0 E') : ∀ (cs : List V) (g o : Nat), E'.w.heap[g]? = E.w.heap[g]? → (∀ c ∈ cs, c.tree = true) → RRow E cs g o → RRow E' cs g o
  | [], g, o, e, _, hv => by simp only [RRow]
  | c :: cs, g, o, e, ht, hv => by
    simp only [RRow] at hv ⊢
    obtain ⟨⟨v, hc, h1, hR⟩, h2⟩ := hv
    exact ⟨⟨v, by rw [World.cell?_of_block (w := E.w) (a := ⟨g, o, none⟩) e]; exact hc, h1, R.clean h c v (V.tree_clean (ht c (by simp))) hR⟩, RRow.mono0 h cs g (o + 1) e (fun d hd => ht d (by simp [hd])) h2⟩
theorem RRows.mono0 {E E' : Env} (h : E.le0 E') : ∀ (rs : List (List V)) (g o : Nat), E'.w.heap[g]? = E.w.heap[g]? → (∀ r ∈ rs, ∀ c ∈ r, c.tree = true) → RRows E rs g o → RRows E' rs g o
  | [], g, o, e, _, hv => by simp only [RRows]
  | r :: rs, g, o, e, ht, hv => by
    simp only [RRows] at hv ⊢
    exact ⟨RRow.mono0 h r g o e (ht r (by simp)) hv.1, RRows.mono0 h rs g _ e (fun q hq => ht q (by simp [hq])) hv.2⟩
end
theorem R.mono0 {E E' : Env} (h : E.le0 E') (x : V) (v : Value) (hx : x.tree = true) (hv : R E x v) : R E' x v := R.clean h x v (V.tree_clean hx) hv
theorem RL.mono0 {E E' : Env} (h : E.le0 E') : ∀ (cs : List V) (vs : List Value), (∀ c ∈ cs, c.tree = true) → RL E cs vs → RL E' cs vs
  | [], vs, _, hv => by simpa only [RL] using hv
  | c :: cs, vs, ht, hv => by
    simp only [RL] at hv ⊢
    obtain ⟨v, vs', rfl, h1, h2⟩ := hv
    exact ⟨v, vs', rfl, R.mono0 h c v (ht c (by simp)) h1, RL.mono0 h cs vs' (fun d hd => ht d (by simp [hd])) h2⟩
mutual
theorem R.mono {E E' : Env} (h : E.le E') : ∀ (x : V) (v : Value), R E x v → R E' x v
  | .int k n, v, hv => by simpa only [R] using hv
  | .bool b, v, hv => by simpa only [R] using hv
  | .str s, v, hv => by simpa only [R] using hv
  | .nilp, v, hv => by simpa only [R] using hv
  | .nils, v, hv => by simpa only [R] using hv
  | .nilfn, v, hv => by simpa only [R] using hv
  | .nilif, v, hv => by simpa only [R] using hv
  | .nilm, v, hv => by simpa only [R] using hv
  | .bany, v, hv => by simpa only [R] using hv
  | .iany k, v, hv => by simpa only [R] using hv
  | .rd sz rows, v, hv => R.clean h.le0 _ _ rfl hv
  | .rptr row off, v, hv => R.clean h.le0 _ _ rfl hv
  | .mrd ks vs, v, hv => R.clean h.le0 _ _ rfl hv
  | .own b, v, hv => by
    simp only [R] at hv ⊢
    exact ⟨h.D b hv.1, by rw [h.σ b hv.1]; exact hv.2⟩
  | .ptr b off, v, hv => by
    simp only [R] at hv ⊢
    exact ⟨h.D b hv.1, by rw [h.σ b hv.1]; exact hv.2⟩
  | .eptr b sz i off, v, hv => by
    simp only [R] at hv ⊢
    exact ⟨h.D b hv.1, by rw [h.σ b hv.1]; exact hv.2⟩
  | .yld b, v, hv => by
    simp only [R] at hv ⊢
    exact ⟨h.D b hv.1, by rw [h.σ b hv.1]; exact hv.2⟩
  | .mp b, v, hv => by
    simp only [R] at hv ⊢
    exact ⟨h.D b hv.1, by rw [h.σ b hv.1]; exact hv.2⟩
  | .fn f fi caps, v, hv => by
    simp only [R] at hv ⊢
    obtain ⟨us, vs, rfl, h1, h2⟩ := hv
    exact ⟨us, vs, rfl, RL.mono h fi us h1, RL.mono h caps vs h2⟩
  | .iface t x, v, hv => by
    simp only [R] at hv ⊢
    obtain ⟨u, rfl, hr⟩ := hv
    exact ⟨u, rfl, R.mono h x u hr⟩
  | .agg cs, v, hv => by
    simp only [R] at hv ⊢
    obtain ⟨vs, rfl, hr⟩ := hv
    exact ⟨vs, rfl, RL.mono h cs vs hr⟩
  | .tup cs, v, hv => by
    simp only [R] at hv ⊢
    obtain ⟨vs, rfl, hr⟩ := hv
    exact ⟨vs, rfl, RL.mono h cs vs hr⟩
  | .junk, v, hv => by simp only [R]
theorem RL.mono {E E' : Env} (h : E.le E') : ∀ (cs : List V) (vs : List Value), RL E cs vs → RL E' cs vs
  | [], vs, hv => by simpa only [RL] using hv
  | c :: cs, vs, hv => by
    simp only [RL] at hv ⊢
    obtain ⟨v, vs', rfl, h1, h2⟩ := hv
    exact ⟨v, vs', rfl, R.mono h c v h1, RL.mono h cs vs' h2⟩
end
end Go.Proofs.YtbnjijffkjcmcaaDoor.AL
namespace Go.Proofs.YtbnjijffkjcmcaaDoor.AL
open Go
/-! ### Blocks of the call's own -/
inductive Blk where
  | box (ty : TypeId) (cells : List V)
  | sl (sz : Nat) (ty : TypeId) (rows : List (List V))
  | slo (sz : Nat) (ty : TypeId) (rows : List (List V))
  | obj (o : Obj)
  | loop (st : LoopState) (pend : Option Code) (fn : FuncId) (tm : Nat → V) (nt : Nat) (ps : Array Tmp) (assign body : Code) (d : Nat)
  | map (ks vs : List V)
  deriving Inhabited

def blkOf : Value → Option Nat
  | .pointer (some a) => some a.block
  | .slice (some a) _ c => if c = 0 then none else some a.block
  | .map (some g) => some g
  | _ => none
def notCells : Obj → Bool
  | .cells _ _ _ => false
  | _ => true

/-- Whatever. -/
def anyV (_ : V) : Prop := True
def BRel (F : Nat → Prop) (E : Env) (v : Value) : Blk → Prop
  | .box ty cells => ∃ g arr, v = .pointer (some ⟨g, 0, none⟩) ∧ E.w.heap[g]? = some (.cells arr ty (0, 0)) ∧ RL E cells arr.toList ∧ (∀ u ∈ arr.toList, u.oneCell' = true) ∧ ¬ F g ∧ E.O g
  | .sl sz ty rows => (∃ vs, E.w.ownsRow 0 ty sz v rows.length vs ∧ RL E rows.flatten vs ∧ (∀ u ∈ vs, u.oneCell' = true) ∧ 0 < sz ∧
      (∀ r ∈ rows, r.length = sz ∧ ∀ c ∈ r, c.tree = true) ∧ (∀ g, blkOf v = some g → ¬ F g ∧ E.O g)) ∨ (rows = [] ∧ 0 < sz ∧ ∃ ad, v = .slice ad 0 0)
  | .slo sz ty rows => (∃ vs, E.w.ownsRow 0 ty sz v rows.length vs ∧ RL E rows.flatten vs ∧ (∀ u ∈ vs, u.oneCell' = true) ∧ 0 < sz ∧
      (∀ r ∈ rows, r.length = sz ∧ ∀ c ∈ r, anyV c) ∧ (∀ g, blkOf v = some g → ¬ F g ∧ E.O g)) ∨ (rows = [] ∧ 0 < sz ∧ ∃ ad, v = .slice ad 0 0)
  | .obj o => ∃ g, v = .pointer (some ⟨g, 0, none⟩) ∧ E.w.heap[g]? = some o ∧ notCells o = true ∧ ¬ F g ∧ E.O g
  | .loop st pend fn tm nt ps assign body d => ∃ g r, v = .pointer (some ⟨g, 0, none⟩) ∧ E.w.heap[g]? = some (.loop r) ∧ r.state = st ∧ r.pending = pend ∧ r.fn = fn ∧ r.tmps.size = nt ∧
      (∀ t, R E (tm t) (r.tmps.getD t undef)) ∧ r.params = ps ∧ r.assign = assign ∧ r.body = body ∧ (E.D d ∧ E.σ d = .pointer (some ⟨r.defers, 0, none⟩)) ∧ ¬ F g ∧ E.O g
  | .map ks vs => ∃ g arr clk, v = .map (some g) ∧ E.w.heap[g]? = some (.map arr clk) ∧ RL E ks (arr.toList.map (·.key)) ∧ RL E vs (arr.toList.map (·.val)) ∧ ¬ F g ∧ E.O g

theorem BRel.toSlo {F : Nat → Prop} {E : Env} {v : Value} {sz : Nat} {ty : TypeId} {rows : List (List V)} (h : BRel F E v (.sl sz ty rows)) : BRel F E v (.slo sz ty rows) := by
  simp only [BRel] at h ⊢
  rcases h with ⟨vs, h1, h2, h3, h4, h5, h6⟩ | h
  · exact .inl ⟨vs, h1, h2, h3, h4, fun r hr => ⟨(h5 r hr).1, fun _ _ => trivial⟩, h6⟩
  · exact .inr h

structure HRel (F : Nat → Prop) (E : Env) (hp : Nat → Option Blk) : Prop where
  blk : ∀ b x, hp b = some x → E.D b ∧ BRel F E (E.σ b) x
  sep : ∀ b b' x x' g, hp b = some x → hp b' = some x' → blkOf (E.σ b) = some g → blkOf (E.σ b') = some g → b = b'

/-- What is known of a program's package-level variables. -/
class Gl (P : Program) where
  gv : Nat → V
  clean : ∀ g, (gv g).clean = true
  lay : Nat → Option (List Value)
/-- The package-level variables hold what is told of them. -/
structure GOK (P : Program) [Gl P] (E : Env) : Prop where
  val : ∀ g, R E (Gl.gv P g) (.pointer (some ⟨g, 0, none⟩))
  lay : ∀ g cs, Gl.lay P g = some cs → ¬ E.O g ∧ g < E.w.heap.size ∧ ∃ arr ty fr, E.w.heap[g]? = some (.cells arr ty fr) ∧ arr.toList = cs
theorem GOK.mono {P : Program} [Gl P] {E E' : Env} (h : E.le0 E') (k : GOK P E) : GOK P E' :=
  ⟨fun g => R.clean h _ _ (Gl.clean g) (k.val g), fun g cs hg => by
    obtain ⟨h1, h2, arr, ty, fr, h3, h4⟩ := k.lay g cs hg
    obtain ⟨e1, e2⟩ := h.blk g h2 h1
    exact ⟨e2, Nat.lt_of_lt_of_le h2 h.size, arr, ty, fr, e1.trans h3, h4⟩⟩

/-- A state: what the temporaries hold; the blocks by their names; the next name; how many temporaries; not in a round; marks; are the names kept? -/
structure St where
  tm : Nat → V
  hp : Nat → Option Blk
  nx : Nat
  nt : Nat
  top : Bool := true
  df : List Nat := []
  kp : Bool := true

/-- Must the draws be told to go on only? (The library's contracts of the shelf do not tell it: base.sh KD=false makes the edition that takes them.) -/
def KD : Bool := false
structure Ev (F : Nat → Prop) (w w' : World) : Prop where
  os : w'.os = w.os
  tape : w'.tape = w.tape
  output : w'.output = w.output
  size : w.heap.size ≤ w'.heap.size
  blk : ∀ g, F g → w'.heap[g]? = w.heap[g]?
  drawn : KD = true → w.drawn ≤ w'.drawn

theorem Ev.refl (F : Nat → Prop) (w : World) : Ev F w w := ⟨rfl, rfl, rfl, Nat.le_refl _, fun _ _ => rfl, fun _ => Nat.le_refl _⟩
theorem Ev.trans {F : Nat → Prop} {w w1 w2 : World} (h : Ev F w w1) (k : Ev F w1 w2) : Ev F w w2 :=
  ⟨k.os.trans h.os, k.tape.trans h.tape, k.output.trans h.output, Nat.le_trans h.size k.size, fun g hg => (k.blk g hg).trans (h.blk g hg), fun e => Nat.le_trans (h.drawn e) (k.drawn e)⟩

/-- The deferred calls: the marks of loops over functions. -/
def DRel (E : Env) : List Nat → List Deferred → Prop
  | [], ds => ds = []
  | b :: bs, ds => ∃ g ds', ds = { target := .collected g, args := #[] } :: ds' ∧ (E.D b ∧ E.σ b = .pointer (some ⟨g, 0, none⟩)) ∧ DRel E bs ds'
theorem DRel.mono {E E' : Env} (h : E.le E') : ∀ {bs : List Nat} {ds : List Deferred}, DRel E bs ds → DRel E' bs ds
  | [], ds, hd => hd
  | b :: bs, ds, hd => by
    obtain ⟨g, ds', rfl, ⟨h1, h2⟩, h3⟩ := hd
    exact ⟨g, ds', rfl, ⟨h.D b h1, by rw [h.σ b h1]; exact h2⟩, h3.mono h⟩

/-- The frame round the code: what may not be touched, the round, what is kept of the names. -/
structure Fr where
  F : Nat → Prop
  A : Nat → Prop
  ρ : Option Nat
  K : Env → Prop
  Km : ∀ E E', Env.le E E' → K E → K E'

/-- The world and what is told of it, without the activation. -/
structure ERel (P : Program) [Gl P] (F A : Nat → Prop) (E : Env) (s : St) : Prop where
  hp : HRel F E s.hp
  gl : GOK P E
  AO : ∀ g, A g → E.O g ∧ F g
  Fz : ∀ g, F g → g < E.w.heap.size
  OA : ∀ g, E.O g → F g → A g
  Oz : ∀ g, E.O g → g < E.w.heap.size
structure CRel (P : Program) [Gl P] (X : Fr) (E : Env) (a : Act) (s : St) : Prop extends ERel P X.F X.A E s where
  top : s.top = true → X.ρ = none
  kp : s.kp = true → X.K E
  defers : DRel E s.df a.defers
  nt : a.tmps.size = s.nt
  tm : ∀ t, R E (s.tm t) (a.tmps.getD t undef)
structure SRel (P : Program) [Gl P] (X : Fr) (E : Env) (a : Act) (s : St) : Prop extends CRel P X E a s where
  nx : ∀ b, E.D b → b < s.nx

/-- How code is left. -/
inductive AX where
  | normal | ret
  | exit (id : Nat)
  | goto (l : Nat)
  | panic (v : V)
def XR (E : Env) : AX → Exit → Prop
  | .normal, e => e = .normal
  | .ret, e => e = .ret
  | .exit i, e => e = .exit i
  | .goto l, e => e = .goto l
  | .panic v, e => ∃ u, e = .panic [{ v := u, recovered := false }] ∧ R E v u

/-- The widest fence, in a round or in none. -/
def FR (ρ : Option Nat) : Fence := { fn := fun _ => True, depth := none, alive := false, round := ρ }
theorem FR_none : FR none = Fence.wide := rfl
theorem FR_fn (ρ : Option Nat) (f : FuncId) : (FR ρ).fn f := trivial
theorem FR_room (ρ : Option Nat) (n : Nat) : (FR ρ).room n := fun _ h => by simp [FR] at h

def postA (P : Program) [Gl P] (X : Fr) (w0 : World) (Q : AX → St → Prop) : Exit → Act → World → Prop :=
  fun e a' w' => ∃ E' s' x, E'.w = w' ∧ SRel P X E' a' s' ∧ XR E' x e ∧ Q x s' ∧ Ev X.F w0 w'
def W (P : Program) [Gl P] (c : Code) (s : St) (Q : AX → St → Prop) : Prop :=
  ∀ X E a, SRel P X E a s → c.wpIn (FR X.ρ) 0 P (postA P X E.w Q) a E.w

def thenA (next : St → Prop) (Q : AX → St → Prop) : AX → St → Prop
  | .normal, s => next s
  | e, s => Q e s
def blockA (id : Nat) (Q : AX → St → Prop) : AX → St → Prop
  | .exit id', s => if id' = id then Q .normal s else Q (.exit id') s
  | e, s => Q e s

section
variable {P : Program} [Gl P] {s : St} {Q : AX → St → Prop}

theorem postA_trans {X : Fr} {w0 w1 : World} (h : Ev X.F w0 w1) {e : Exit} {a : Act} {w : World} (hp : postA P X w1 Q e a w) : postA P X w0 Q e a w := by
  obtain ⟨E', s', x, h1, h2, h3, h4, h5⟩ := hp
  exact ⟨E', s', x, h1, h2, h3, h4, h.trans h5⟩
theorem postA_mono {X : Fr} {w0 : World} {Q' : AX → St → Prop} (hq : ∀ e s, Q e s → Q' e s) {e : Exit} {a : Act} {w : World} (hp : postA P X w0 Q e a w) : postA P X w0 Q' e a w := by
  obtain ⟨E', s', x, h1, h2, h3, h4, h5⟩ := hp
  exact ⟨E', s', x, h1, h2, h3, hq _ _ h4, h5⟩
theorem W.mono {c : Code} {Q' : AX → St → Prop} (h : W P c s Q) (hq : ∀ e s, Q e s → Q' e s) : W P c s Q' :=
  fun X E a hs => wpIn_mono (h X E a hs) fun e a' w' hp => postA_mono hq hp

theorem W.skip (h : Q .normal s) : W P .skip s Q := fun X E a hs => wpIn_skip ⟨E, s, .normal, rfl, hs, rfl, h, Ev.refl _ _⟩
theorem W.ret (h : Q .ret s) : W P .ret s Q := fun X E a hs => wpIn_ret ⟨E, s, .ret, rfl, hs, rfl, h, Ev.refl _ _⟩
theorem W.exit {id : Nat} (h : Q (.exit id) s) : W P (.exit id) s Q := fun X E a hs => wpIn_exit ⟨E, s, .exit id, rfl, hs, rfl, h, Ev.refl _ _⟩

theorem XR_normal {E : Env} {x : AX} (h : XR E x .normal) : x = .normal := by cases x <;> simp [XR] at h ; rfl
theorem XR_other {E : Env} {x : AX} {e : Exit} (h : XR E x e) (he : e ≠ .normal) : x ≠ .normal := by
  rintro rfl; exact he h

theorem W.seq {x y : Code} (h : W P x s (thenA (fun s' => W P y s' Q) Q)) : W P (.seq x y) s Q := by
  intro X E a hs
  refine wpIn_seq (wpIn_mono (h X E a hs) ?_)
  rintro e a' w' ⟨E', s', x, rfl, h2, hx, h3, h4⟩
  cases e with
  | normal =>
    obtain rfl := XR_normal hx
    exact wpIn_mono (h3 X E' a' h2) fun e a'' w'' hp => postA_trans h4 hp
  | _ =>
    have hn := XR_other hx (by simp)
    refine ⟨E', s', x, rfl, h2, hx, ?_, h4⟩
    cases x <;> first | exact absurd rfl hn | exact h3

theorem W.block {id : Nat} {c : Code} (h : W P c s (blockA id Q)) : W P (.block id c) s Q := by
  intro X E a hs
  refine wpIn_block (wpIn_mono (h X E a hs) ?_)
  rintro e a' w' ⟨E', s', x, rfl, h2, hx, h3, h4⟩
  cases x with
  | exit id' =>
    simp only [blockA] at h3
    obtain rfl : e = .exit id' := hx
    simp only [Exit.inBlock]
    split at h3
    · rename_i hid; rw [if_pos hid]; exact ⟨E', s', .normal, rfl, h2, rfl, h3, h4⟩
    · rename_i hid; rw [if_neg hid]; exact ⟨E', s', .exit id', rfl, h2, rfl, h3, h4⟩
  | normal => obtain rfl : e = .normal := hx; exact ⟨E', s', .normal, rfl, h2, rfl, h3, h4⟩
  | ret => obtain rfl : e = .ret := hx; exact ⟨E', s', .ret, rfl, h2, rfl, h3, h4⟩
  | goto l => obtain rfl : e = .goto l := hx; exact ⟨E', s', .goto l, rfl, h2, rfl, h3, h4⟩
  | panic v =>
    obtain ⟨u, rfl, hu⟩ := hx
    exact ⟨E', s', .panic v, rfl, h2, ⟨u, rfl, hu⟩, h3, h4⟩

/-- What an operand holds. -/
def cv : Value → V
  | .int k n => .int k n
  | .bool b => .bool b
  | .string s => .str s
  | .pointer a => if a.isNone then .nilp else .junk
  | .slice a n c => if a.isNone && n == 0 && c == 0 then .nils else .junk
  | .nilFunc => .nilfn
  | .nilIface => .nilif
  | .map m => if m.isNone then .nilm else .junk
  | .func fn x y => match fn with
    | .func f => if x.isEmpty && y.isEmpty then .fn f [] [] else .junk
    | _ => .junk
  | _ => .junk
def ev (P : Program) [Gl P] (s : St) : Operand → V
  | .tmp t => s.tm t
  | .const v => cv v
  | .global g => Gl.gv P g
  | .func f => .fn f [] []

theorem R_cv (E : Env) (v : Value) : R E (cv v) v := by
  cases v with
  | pointer a => cases a <;> simp [cv, R]
  | slice a n c => cases a <;> simp only [cv] <;> split <;> simp_all [R]
  | map m => cases m <;> simp [cv, R]
  | func fn x y =>
    cases fn <;> simp only [cv, R]
    split
    · rename_i h
      simp only [Bool.and_eq_true, Array.isEmpty_iff] at h
      obtain ⟨rfl, rfl⟩ := h
      simp [R, RL]
    · simp [R]
  | _ => simp [cv, R]

theorem CRel.ev {X : Fr} {E : Env} {a : Act} (h : CRel P X E a s) (x : Operand) : R E (ev P s x) (a.eval x) := by
  cases x with
  | tmp t => exact h.tm t
  | const v => exact R_cv E v
  | global g => exact h.gl.val g
  | func f => simp only [AL.ev, R, Act.eval]; exact ⟨[], [], rfl, by simp only [RL], by simp only [RL]⟩

theorem W.cond {c : Operand} {x y : Code} (b : Bool) (hc : ev P s c = .bool b) (ht : b = true → W P x s Q) (hf : b = false → W P y s Q) : W P (.cond c x y) s Q := by
  intro X E a hs
  have h1 := hs.ev c
  rw [hc] at h1
  simp only [R] at h1
  exact wpIn_cond_split h1 (fun hb => ht hb X E a hs) (fun hb => hf hb X E a hs)

theorem W.cond_any {c : Operand} {x y : Code} (hc : ev P s c = .bany) (ht : W P x s Q) (hf : W P y s Q) : W P (.cond c x y) s Q := by
  intro X E a hs
  have h1 := hs.ev c
  rw [hc] at h1
  simp only [R] at h1
  obtain ⟨b, h1⟩ := h1
  exact wpIn_cond_split h1 (fun _ => ht X E a hs) (fun _ => hf X E a hs)

/-- A state that says less. -/
def Wk (P : Program) [Gl P] (s s' : St) : Prop := ∀ X E a, SRel P X E a s → ∃ E', E'.w = E.w ∧ SRel P X E' a s'

theorem Wk.refl (s : St) : Wk P s s := fun X E a h => ⟨E, rfl, h⟩
theorem Wk.trans {s s1 s2 : St} (h : Wk P s s1) (k : Wk P s1 s2) : Wk P s s2 := fun X E a hs => by
  obtain ⟨E1, e1, h1⟩ := h X E a hs
  obtain ⟨E2, e2, h2⟩ := k X E1 a h1
  exact ⟨E2, e2.trans e1, h2⟩
theorem W.wk {c : Code} {s' : St} (hw : Wk P s s') (h : W P c s' Q) : W P c s Q := fun X E a hs => by
  obtain ⟨E1, e1, h1⟩ := hw X E a hs
  rw [← e1]
  exact h X E1 a h1

theorem W.loop {ι : Type} {c : Code} (I : ι → St) (μ : ι → Nat) (i : ι) (h0 : Wk P s (I i))
    (round : ∀ i, W P c (I i) (thenA (fun s' => ∃ j, Wk P s' (I j) ∧ μ j < μ i) Q)) : W P (.loop c) s Q := by
  intro X E a hs
  obtain ⟨E0, e0, h0⟩ := h0 X E a hs
  have key : ∀ (a' : Act) (w' : World) (m : Nat), (∃ E1 j, E1.w = w' ∧ SRel P X E1 a' (I j) ∧ Ev X.F E.w w' ∧ m = μ j) →
      c.wpIn (FR X.ρ) 0 P (Exit.then (fun a2 w2 => ∃ m', (∃ E1 j, E1.w = w2 ∧ SRel P X E1 a2 (I j) ∧ Ev X.F E.w w2 ∧ m' = μ j) ∧ m' < m) (postA P X E.w Q)) a' w' := by
    rintro a' w' m ⟨E1, j, rfl, h1, hev, rfl⟩
    refine wpIn_mono (round j X E1 a' h1) ?_
    rintro e a2 w2 ⟨E2, s2, x, rfl, h2, hx, h3, h4⟩
    cases e with
    | normal =>
      obtain rfl := XR_normal hx
      obtain ⟨j', hw, hlt⟩ := h3
      obtain ⟨E3, e3, h5⟩ := hw X E2 a2 h2
      exact ⟨μ j', ⟨E3, j', e3, h5, hev.trans h4, rfl⟩, hlt⟩
    | _ =>
      have hn := XR_other hx (by simp)
      refine ⟨E2, s2, x, rfl, h2, hx, ?_, hev.trans h4⟩
      cases x <;> first | exact absurd rfl hn | exact h3
  have main : ∀ (n : Nat) (a' : Act) (w' : World) (m : Nat), m = n → (∃ E1 j, E1.w = w' ∧ SRel P X E1 a' (I j) ∧ Ev X.F E.w w' ∧ m = μ j) →
      ∀ (b : Frame) (k : List Item) (cs : List Frame), b.roundOf = (FR X.ρ).round → ∃ e a2 w2, postA P X E.w Q e a2 w2 ∧ ArrivesIn (Machine.fenced P (FR X.ρ)) P (lone (b.atR a' (.code c :: .inLoop c :: k)) cs w') b k cs e a2 w2 := by
    intro n
    induction n using Nat.strongRecOn with
    | _ n ih =>
      intro a' w' m hm hI b k cs hro
      obtain ⟨e, a1, w1, hq, harr⟩ := key a' w' m hI b (.inLoop c :: k) cs hro (FR_fn _ _) (FR_room _ _)
      cases e with
      | normal =>
        obtain ⟨m', hI', hlt⟩ := hq
        obtain ⟨e2, a2, w2, hq2, harr2⟩ := ih m' (hm ▸ hlt) a1 w1 m' rfl hI' b k cs hro
        exact ⟨e2, a2, w2, hq2, .of_steps (StepsIn.trans harr (.one (fenced_calm (n := 0) (FR_fn _ _) (FR_room _ _) rfl) stepR_inLoop)) harr2⟩
      | exit id => exact ⟨_, a1, w1, hq, .pass (x := .inLoop c) rfl (fun _ _ => .inl (by simp)) harr⟩
      | goto l => exact ⟨_, a1, w1, hq, .pass (x := .inLoop c) rfl (fun _ _ => .inl (by simp)) harr⟩
      | ret => exact ⟨_, a1, w1, hq, .pass (x := .inLoop c) rfl (fun _ _ => .inl (by simp)) harr⟩
      | panic ch => exact ⟨_, a1, w1, hq, .pass (x := .inLoop c) rfl (fun _ _ => .inl (by simp)) harr⟩
      | outgrown => exact ⟨_, a1, w1, hq, .pass (x := .inLoop c) rfl (fun _ _ => .inl (by simp)) harr⟩
  intro b k cs hro hb hr
  obtain ⟨e, a', w', hq, harr⟩ := main _ a E.w (μ i) rfl ⟨E0, i, e0, h0, by rw [← e0]; exact Ev.refl _ _, rfl⟩ b k cs hro
  exact ⟨e, a', w', hq, .of_steps (.one (fenced_calm hb hr rfl) stepR_loop) harr⟩
end
end Go.Proofs.YtbnjijffkjcmcaaDoor.AL
namespace Go.Proofs.YtbnjijffkjcmcaaDoor.AL
open Go
/-! ### Reading memory -/
def V.cells : V → List V
  | .agg cs => cs
  | x => [x]

theorem R.one {E : Env} {x : V} {v : Value} (h : R E x v) (hx : x.one = true) : v.oneCell' = true := by
  cases x <;> simp only [V.one, Bool.false_eq_true] at hx <;> simp only [R] at h
  case int => subst h; rfl
  case bool => subst h; rfl
  case str => subst h; rfl
  case nilp => subst h; rfl
  case nils => subst h; rfl
  case nilfn => subst h; rfl
  case nilif => subst h; rfl
  case nilm => subst h; rfl
  case bany => obtain ⟨b, rfl⟩ := h; rfl
  case iany => obtain ⟨b, rfl⟩ := h; rfl
  case rd => obtain ⟨_, _, rfl, _⟩ := h; rfl
  case own => obtain ⟨_, _, _, _, _, rfl⟩ := h; rfl
  case ptr => obtain ⟨_, _, _, rfl⟩ := h; rfl
  case eptr => obtain ⟨_, _, _, _, _, rfl⟩ := h; rfl
  case rptr => obtain ⟨_, _, rfl, _⟩ := h; rfl
  case fn => obtain ⟨_, _, rfl, _⟩ := h; rfl
  case yld => obtain ⟨_, _, _, rfl⟩ := h; rfl
  case mp => obtain ⟨_, _, _, rfl⟩ := h; rfl
  case mrd => obtain ⟨_, _, _, rfl, _⟩ := h; rfl
  case iface => obtain ⟨_, rfl, _⟩ := h; rfl

theorem RL.length {E : Env} : ∀ {cs : List V} {vs : List Value}, RL E cs vs → vs.length = cs.length
  | [], vs, h => by simp only [RL] at h; subst h; rfl
  | c :: cs, vs, h => by
    simp only [RL] at h
    obtain ⟨v, vs', rfl, _, h2⟩ := h
    simp [RL.length h2]
theorem RL.drop {E : Env} : ∀ (n : Nat) {cs : List V} {vs : List Value}, RL E cs vs → RL E (cs.drop n) (vs.drop n)
  | 0, cs, vs, h => by simpa using h
  | n + 1, [], vs, h => by simp only [RL] at h; subst h; simp [RL]
  | n + 1, c :: cs, vs, h => by
    simp only [RL] at h
    obtain ⟨v, vs', rfl, _, h2⟩ := h
    simpa using RL.drop n h2
theorem RL.take {E : Env} : ∀ (n : Nat) {cs : List V} {vs : List Value}, RL E cs vs → RL E (cs.take n) (vs.take n)
  | 0, cs, vs, h => by simp [RL]
  | n + 1, [], vs, h => by simp only [RL] at h; subst h; simp [RL]
  | n + 1, c :: cs, vs, h => by
    simp only [RL] at h
    obtain ⟨v, vs', rfl, h1, h2⟩ := h
    simp only [List.take_succ_cons, RL]; exact ⟨v, _, rfl, h1, RL.take n h2⟩
theorem RL.append {E : Env} : ∀ {cs ds : List V} {vs us : List Value}, RL E cs vs → RL E ds us → RL E (cs ++ ds) (vs ++ us)
  | [], ds, vs, us, h, k => by simp only [RL] at h; subst h; simpa using k
  | c :: cs, ds, vs, us, h, k => by
    simp only [RL] at h
    obtain ⟨v, vs', rfl, h1, h2⟩ := h
    simp only [List.cons_append, RL]
    exact ⟨v, vs' ++ us, rfl, h1, RL.append h2 k⟩
theorem RL.get {E : Env} {cs : List V} {vs : List Value} (h : RL E cs vs) {j : Nat} {c : V} (hc : cs[j]? = some c) : ∃ v, vs[j]? = some v ∧ R E c v := by
  have h1 := RL.drop j h
  obtain ⟨hj, rfl⟩ := List.getElem?_eq_some_iff.1 hc
  rw [List.drop_eq_getElem_cons hj] at h1
  simp only [RL] at h1
  obtain ⟨v, vs', e, h2, _⟩ := h1
  refine ⟨v, ?_, h2⟩
  have : (vs.drop j)[0]? = some v := by rw [e]; rfl
  simpa using this
theorem RL.set {E : Env} {c : V} {v : Value} (hc : R E c v) : ∀ (j : Nat) {cs : List V} {vs : List Value}, RL E cs vs → RL E (cs.set j c) (vs.set j v)
  | _, [], vs, h => by simp only [RL] at h; subst h; simp [RL]
  | 0, d :: cs, vs, h => by
    simp only [RL] at h
    obtain ⟨u, vs', rfl, _, h2⟩ := h
    simp only [List.set_cons_zero, RL]; exact ⟨v, _, rfl, hc, h2⟩
  | j + 1, d :: cs, vs, h => by
    simp only [RL] at h
    obtain ⟨u, vs', rfl, h1, h2⟩ := h
    simp only [List.set_cons_succ, RL]; exact ⟨u, _, rfl, h1, RL.set hc j h2⟩
theorem RL.ones {E : Env} : ∀ {cs : List V} {vs : List Value}, RL E cs vs → (∀ c ∈ cs, c.one = true) → ∀ u ∈ vs, u.oneCell' = true
  | [], vs, h, _ => by simp only [RL] at h; subst h; simp
  | c :: cs, vs, h, ho => by
    simp only [RL] at h
    obtain ⟨v, vs', rfl, h1, h2⟩ := h
    intro u hu
    rcases List.mem_cons.1 hu with rfl | hu
    · exact h1.one (ho c (by simp))
    · exact RL.ones h2 (fun d hd => ho d (by simp [hd])) u hu

/-- The cells of a row in memory that may be read. -/
theorem RRow.list {E : Env} : ∀ {row : List V} {g o : Nat}, RRow E row g o →
    ∃ vs, RL E row vs ∧ (∀ j u, vs[j]? = some u → E.w.cell? ⟨g, o + j, none⟩ = some u) ∧ ∀ u ∈ vs, u.oneCell' = true
  | [], g, o, h => ⟨[], by simp [RL]⟩
  | c :: cs, g, o, h => by
    simp only [RRow] at h
    obtain ⟨⟨v, hc, h1, hR⟩, h2⟩ := h
    obtain ⟨vs, k1, k2, k3⟩ := RRow.list h2
    refine ⟨v :: vs, by simp only [RL]; exact ⟨v, vs, rfl, hR, k1⟩, ?_, by simpa using ⟨h1, k3⟩⟩
    intro j u hu
    cases j with
    | zero => simp at hu; subst hu; simpa using hc
    | succ j =>
      have := k2 j u (by simpa using hu)
      rw [show o + (j + 1) = o + 1 + j by omega]
      exact this
theorem RRow.of_list {E : Env} {g : Nat} : ∀ {row : List V} {vs : List Value} {o : Nat}, RL E row vs → (∀ j u, vs[j]? = some u → E.w.cell? ⟨g, o + j, none⟩ = some u) → (∀ u ∈ vs, u.oneCell' = true) → RRow E row g o
  | [], vs, o, _, _, _ => by simp only [RRow]
  | c :: cs, vs, o, h, hc, h1 => by
    simp only [RL] at h
    obtain ⟨v, vs', rfl, hR, h2⟩ := h
    simp only [RRow]
    refine ⟨⟨v, by simpa using hc 0 v rfl, h1 v (by simp), hR⟩, RRow.of_list h2 (fun j u hu => ?_) (fun u hu => h1 u (by simp [hu]))⟩
    rw [show o + 1 + j = o + (j + 1) by omega]
    exact hc (j + 1) u (by simpa using hu)
theorem RRow.drop {E : Env} : ∀ (n : Nat) {row : List V} {g o : Nat}, RRow E row g o → RRow E (row.drop n) g (o + n)
  | 0, row, g, o, h => by simpa using h
  | n + 1, [], g, o, h => by simp [RRow]
  | n + 1, c :: cs, g, o, h => by
    simp only [RRow] at h
    have := RRow.drop n h.2
    rw [show o + (n + 1) = o + 1 + n by omega]
    simpa using this
theorem RRows.row {E : Env} {sz : Nat} : ∀ {rows : List (List V)} {g o : Nat}, RRows E rows g o → (∀ r ∈ rows, r.length = sz) → ∀ i, i < rows.length → RRow E (rows.getD i []) g (o + i * sz)
  | [], g, o, _, _, i, hi => by simp at hi
  | r :: rs, g, o, h, hl, 0, _ => by simp only [RRows] at h; simpa using h.1
  | r :: rs, g, o, h, hl, i + 1, hi => by
    simp only [RRows] at h
    have := RRows.row h.2 (fun r hr => hl r (by simp [hr])) i (by simpa using hi)
    rw [hl r (by simp)] at this
    rw [show o + (i + 1) * sz = o + sz + i * sz by rw [Nat.add_mul]; omega]
    simpa using this
theorem RRows.drop {E : Env} {sz : Nat} : ∀ (i : Nat) {rows : List (List V)} {g o : Nat}, RRows E rows g o → (∀ r ∈ rows, r.length = sz) → RRows E (rows.drop i) g (o + i * sz)
  | 0, rows, g, o, h, _ => by simpa using h
  | i + 1, [], g, o, h, _ => by simp [RRows]
  | i + 1, r :: rs, g, o, h, hl => by
    simp only [RRows] at h
    have := RRows.drop i h.2 (fun r hr => hl r (by simp [hr]))
    rw [hl r (by simp)] at this
    rw [show o + (i + 1) * sz = o + sz + i * sz by rw [Nat.add_mul]; omega]
    simpa using this
theorem RRows.take {E : Env} : ∀ (i : Nat) {rows : List (List V)} {g o : Nat}, RRows E rows g o → RRows E (rows.take i) g o
  | 0, rows, g, o, h => by simp [RRows]
  | i + 1, [], g, o, h => by simp [RRows]
  | i + 1, r :: rs, g, o, h => by
    simp only [RRows] at h
    simpa [RRows] using ⟨h.1, RRows.take i h.2⟩
theorem RRows.of_list {E : Env} {sz g : Nat} : ∀ {rows : List (List V)} {vs : List Value} {o : Nat}, RL E rows.flatten vs → (∀ j u, vs[j]? = some u → E.w.cell? ⟨g, o + j, none⟩ = some u) → (∀ u ∈ vs, u.oneCell' = true) →
    RRows E rows g o
  | [], vs, o, _, _, _ => by simp only [RRows]
  | r :: rs, vs, o, h, hc, h1 => by
    simp only [RRows]
    have ht := RL.take r.length h
    have hd := RL.drop r.length h
    simp only [List.flatten_cons, List.take_left, List.drop_left] at ht hd
    refine ⟨RRow.of_list ht (fun j u hu => hc j u ?_) (fun u hu => h1 u (List.mem_of_mem_take hu)), RRows.of_list (sz := sz) hd (fun j u hu => ?_) (fun u hu => h1 u (List.mem_of_mem_drop hu))⟩
    · rw [List.getElem?_take] at hu
      split at hu
      · exact hu
      · cases hu
    · rw [Nat.add_assoc]
      exact hc _ u (by simpa using hu)
theorem RRows.list {E : Env} : ∀ {rows : List (List V)} {g o : Nat}, RRows E rows g o →
    ∃ vs, RL E rows.flatten vs ∧ (∀ j u, vs[j]? = some u → E.w.cell? ⟨g, o + j, none⟩ = some u) ∧ ∀ u ∈ vs, u.oneCell' = true
  | [], g, o, h => ⟨[], by simp [RL]⟩
  | r :: rs, g, o, h => by
    simp only [RRows] at h
    obtain ⟨us, a1, a2, a3⟩ := h.1.list
    obtain ⟨vs, b1, b2, b3⟩ := RRows.list h.2
    refine ⟨us ++ vs, RL.append a1 b1, fun j u hu => ?_, fun u hu => ?_⟩
    · rw [List.getElem?_append] at hu
      split at hu
      · exact a2 j u hu
      · rename_i hj
        have := b2 _ u hu
        have hl := a1.length
        rw [show o + j = o + r.length + (j - us.length) by omega]
        exact this
    · rcases List.mem_append.1 hu with hu | hu
      · exact a3 u hu
      · exact b3 u hu
theorem length_flatten_uni {α : Type} {sz : Nat} : ∀ {rows : List (List α)}, (∀ r ∈ rows, r.length = sz) → rows.flatten.length = rows.length * sz
  | [], _ => by simp
  | r :: rs, h => by
    simp only [List.flatten_cons, List.length_append, List.length_cons, Nat.add_mul, length_flatten_uni (fun x hx => h x (List.mem_cons_of_mem r hx)), h r (by simp)]
    omega
theorem drop_flatten_uni {α : Type} {sz : Nat} : ∀ (i : Nat) {rows : List (List α)}, (∀ r ∈ rows, r.length = sz) → rows.flatten.drop (i * sz) = (rows.drop i).flatten
  | 0, rows, h => by simp
  | i + 1, [], h => by simp
  | i + 1, r :: rs, h => by
    have := drop_flatten_uni i (rows := rs) (fun r hr => h r (by simp [hr]))
    rw [List.drop_succ_cons, ← this, List.flatten_cons, List.drop_append, Nat.add_mul, Nat.one_mul, List.drop_eq_nil_of_le (by rw [h r (by simp)]; omega), List.nil_append, h r (by simp)]
    congr 1
    omega
theorem row_flatten {α : Type} {sz i : Nat} {rows : List (List α)} (h : ∀ r ∈ rows, r.length = sz) (hi : i < rows.length) : (rows.flatten.drop (i * sz)).take sz = rows.getD i [] := by
  rw [drop_flatten_uni i h, List.drop_eq_getElem_cons hi, List.flatten_cons, List.take_left' (h _ (List.getElem_mem hi))]
  simp [hi]

/-- The cells behind a pointer. -/
def cellsAt (hp : Nat → Option Blk) : V → Option (Prop × List V)
  | .ptr b off => match hp b with
    | some (.box _ cells) => some (True, cells.drop off)
    | _ => none
  | .eptr b sz i off => match hp b with
    | some (.sl sz' _ rows) => some (sz' = sz ∧ i < rows.length, (rows.getD i []).drop off)
    | some (.slo sz' _ rows) => some (sz' = sz ∧ i < rows.length, (rows.getD i []).drop off)
    | _ => none
  | .rptr row off => some (True, row.drop off)
  | _ => none

theorem cells_slo {F : Nat → Prop} {E : Env} {u : Value} {sz sz' : Nat} {ty : TypeId} {rows : List (List V)} {g n cap i off : Nat} (hB : BRel F E u (.slo sz' ty rows)) (hg : u = .slice (some ⟨g, 0, none⟩) n cap) (hz : sz' = sz) (hi : i < rows.length) :
    ∃ g' o vs, Value.pointer (some ⟨g, i * sz + off, none⟩) = .pointer (some ⟨g', o, none⟩) ∧ RL E ((rows.getD i []).drop off) vs ∧ (∀ j u, vs[j]? = some u → E.w.cell? ⟨g', o + j, none⟩ = some u) ∧ ∀ u ∈ vs, u.oneCell' = true := by
  subst hz
  simp only [BRel] at hB
  obtain ⟨vs, hown, hR, h1, hsz, hun, _⟩ := hB.resolve_right (fun h => by rw [h.1] at hi; simp at hi)
  rw [hg] at hown
  have hcell := hown.cells (g := g) rfl
  have hR2 := RL.drop off (RL.take sz' (RL.drop (i * sz') hR))
  rw [row_flatten (fun r hr => (hun r hr).1) hi] at hR2
  refine ⟨g, i * sz' + off, _, rfl, hR2, fun j u hu => ?_, fun u hu => h1 u (List.mem_of_mem_drop (List.mem_of_mem_take (List.mem_of_mem_drop hu)))⟩
  have hu2 : vs[i * sz' + off + j]? = some u := by
    simp only [List.getElem?_drop, List.getElem?_take] at hu
    split at hu
    · rw [← hu]; congr 1; omega
    · cases hu
  have := hcell _ u hu2
  simpa [Addr.add_lit] using this

theorem cellsAt_sound {F : Nat → Prop} {E : Env} {hp : Nat → Option Blk} (H : HRel F E hp) {p : V} {v : Value} (hv : R E p v) {c : Prop} {cs : List V} (hc : cellsAt hp p = some (c, cs)) (h : c) :
    ∃ g o vs, v = .pointer (some ⟨g, o, none⟩) ∧ RL E cs vs ∧ (∀ j u, vs[j]? = some u → E.w.cell? ⟨g, o + j, none⟩ = some u) ∧ ∀ u ∈ vs, u.oneCell' = true := by
  cases p with
  | ptr b off =>
    simp only [cellsAt] at hc
    simp only [R] at hv
    obtain ⟨hb, g, hg, rfl⟩ := hv
    split at hc
    · rename_i ty cells hbk
      simp only [Option.some.injEq, Prod.mk.injEq] at hc
      obtain ⟨rfl, rfl⟩ := hc
      obtain ⟨_, g', arr, e, hh, hR, h1, _⟩ := H.blk b _ hbk
      rw [hg] at e
      simp only [Value.pointer.injEq, Option.some.injEq, Addr.mk.injEq, and_true] at e
      subst e
      refine ⟨g, off, arr.toList.drop off, rfl, RL.drop off hR, fun j u hu => ?_, fun u hu => h1 u (List.mem_of_mem_drop hu)⟩
      simp only [World.cell?, hh]
      simpa using hu
    · exact absurd hc (by simp)
  | eptr b sz i off =>
    simp only [cellsAt] at hc
    simp only [R] at hv
    obtain ⟨hb, g, n, cap, hg, rfl⟩ := hv
    split at hc
    · rename_i sz' ty rows hbk
      simp only [Option.some.injEq, Prod.mk.injEq] at hc
      obtain ⟨rfl, rfl⟩ := hc
      obtain ⟨h1, hi⟩ := h
      exact cells_slo (H.blk b _ hbk).2.toSlo hg h1 hi
    · rename_i sz' ty rows hbk
      simp only [Option.some.injEq, Prod.mk.injEq] at hc
      obtain ⟨rfl, rfl⟩ := hc
      obtain ⟨h1, hi⟩ := h
      exact cells_slo (H.blk b _ hbk).2 hg h1 hi
    · exact absurd hc (by simp)
  | rptr row off =>
    simp only [cellsAt] at hc
    simp only [R] at hv
    obtain ⟨g, o, rfl, hO, hg, ht, hr⟩ := hv
    simp only [Option.some.injEq, Prod.mk.injEq] at hc
    obtain ⟨rfl, rfl⟩ := hc
    obtain ⟨vs, k1, k2, k3⟩ := (RRow.drop off hr).list
    exact ⟨g, o + off, vs, rfl, k1, k2, k3⟩
  | _ => simp [cellsAt] at hc
end Go.Proofs.YtbnjijffkjcmcaaDoor.AL
namespace Go.Proofs.YtbnjijffkjcmcaaDoor.AL
open Go

/-! ### Quiet operations -/
inductive QR where
  | val (c : Prop) (v : V)
  | new (c : Prop) (b : Blk)
  | bad

def isAggD : TypeDesc → Bool
  | .struct _ | .array _ _ => true
  | _ => false
def loadV (P : Program) (t : TypeId) (d : TypeDesc) (c : Prop) (cs : List V) : QR :=
  if isAggD d then .val (c ∧ P.cellsOf t ≤ cs.length) (.agg (cs.take (P.cellsOf t)))
  else match cs with
    | x :: _ => .val c x
    | [] => .bad
theorem beq_dec {α : Type} [BEq α] [LawfulBEq α] [DecidableEq α] (a b : α) : (a == b) = decide (a = b) := by by_cases h : a = b <;> simp [h]
theorem bne_dec {α : Type} [BEq α] [LawfulBEq α] [DecidableEq α] (a b : α) : (a != b) = !decide (a = b) := by by_cases h : a = b <;> simp [h]
def bAnd (k : IntKind) (a b : Int) : Int := k.wrap (BitVec.ofInt k.bits a &&& BitVec.ofInt k.bits b).toNat
def bOr (k : IntKind) (a b : Int) : Int := k.wrap (BitVec.ofInt k.bits a ||| BitVec.ofInt k.bits b).toNat
def bXor (k : IntKind) (a b : Int) : Int := k.wrap (BitVec.ofInt k.bits a ^^^ BitVec.ofInt k.bits b).toNat
def bShl (k : IntKind) (a b : Int) : Int := k.wrap (a * 2 ^ min b.toNat k.bits)
def bShr (k : IntKind) (a b : Int) : Int := a.fdiv (2 ^ min b.toNat k.bits)
def bCom (k : IntKind) (n : Int) : Int := k.wrap (BitVec.ofInt k.bits (if k.signed then -1 else k.max) ^^^ BitVec.ofInt k.bits n).toNat
def ibin (op : BinOp) (k : IntKind) (a b : Int) : QR :=
  match op with
  | .add => .val True (.int k (k.wrap (a + b)))
  | .sub => .val True (.int k (k.wrap (a - b)))
  | .mul => .val True (.int k (k.wrap (a * b)))
  | .quo => .val (b ≠ 0) (.int k (k.wrap (a.tdiv b)))
  | .rem => .val (b ≠ 0) (.int k (a.tmod b))
  | .and => .val True (.int k (bAnd k a b))
  | .or => .val True (.int k (bOr k a b))
  | .xor => .val True (.int k (bXor k a b))
  | .eql => .val True (.bool (decide (a = b)))
  | .neq => .val True (.bool (!decide (a = b)))
  | .lss => .val True (.bool (decide (a < b)))
  | .leq => .val True (.bool (decide (a ≤ b)))
  | .gtr => .val True (.bool (decide (a > b)))
  | .geq => .val True (.bool (decide (a ≥ b)))
  | _ => .bad
def sbin (op : BinOp) (a b : ByteArray) : QR :=
  match op with
  | .add => .val (((a.size + b.size : Nat) : Int) ≤ 9223372036854775807) (.str (a ++ b))
  | .eql => .val True (.bool (decide (a.toList = b.toList)))
  | .neq => .val True (.bool (!decide (a.toList = b.toList)))
  | .lss => .val True (.bool (Op.bytesLess a.toList b.toList))
  | .leq => .val True (.bool (Op.bytesLess a.toList b.toList || decide (a.toList = b.toList)))
  | .gtr => .val True (.bool (!(Op.bytesLess a.toList b.toList || decide (a.toList = b.toList))))
  | .geq => .val True (.bool (!Op.bytesLess a.toList b.toList))
  | _ => .bad
def peq : V → V → Bool
  | .int _ a, .int _ b => decide (a = b)
  | .bool a, .bool b => decide (a = b)
  | .str a, .str b => decide (a.toList = b.toList)
  | _, _ => false
def peqs : List V → List V → Bool
  | [], [] => true
  | a :: as, b :: bs => peq a b && peqs as bs
  | _, _ => false
/-- Two structs (or arrays) of type t, told cell by cell, compare as their cells do. -/
def EqA (P : Program) (t : TypeId) (xs ys : List V) : Prop :=
  ∀ (E : Env) (us vs : List Value) (op : BinOp) (x y : Operand), RL E xs us → RL E ys vs →
    (eqGuard op t x y (.agg us.toArray) (.agg vs.toArray)).run P E.w = .ok () E.w ∧
    (Op.equal t (.agg us.toArray) (.agg vs.toArray)).run P E.w = .ok (peqs xs ys) E.w
def isSlD : TypeDesc → Bool
  | .slice _ => true
  | _ => false
def isIfD : TypeDesc → Bool
  | .interface _ => true
  | _ => false
/-- Is a slice that may only be read nil? -/
def nilQ (P : Program) (t : TypeId) (rows : List (List V)) (neg : Bool) : QR :=
  if rows = [] then .val ((P.underlying t).any isSlD = true) .bany else .val ((P.underlying t).any isSlD = true) (.bool neg)
/-- The literal nil of an interface type. -/
def isNC : Operand → Bool
  | .const .nilIface => true
  | _ => false
def qbin (P : Program) (op : BinOp) (t : TypeId) (nc : Bool) (x y : V) : QR :=
  match x with
  | .int k a => match y with
    | .int k' b => match op with
      | .shl => .val (0 ≤ b) (.int k (bShl k a b))
      | .shr => .val (0 ≤ b) (.int k (bShr k a b))
      | _ => if k = k' then ibin op k a b else .bad
    | _ => .bad
  | .str a => match y with
    | .str b => sbin op a b
    | _ => .bad
  | .bool a => match y with
    | .bool b => match op with
      | .eql => .val (P.underlying t = some .bool) (.bool (decide (a = b)))
      | .neq => .val (P.underlying t = some .bool) (.bool (!decide (a = b)))
      | _ => .bad
    | _ => .bad
  | .agg xs => match y with
    | .agg ys => match op with
      | .eql => .val (EqA P t xs ys) (.bool (peqs xs ys))
      | .neq => .val (EqA P t xs ys) (.bool (!peqs xs ys))
      | _ => .bad
    | _ => .bad
  | .rd sz rows => match y with
    | .nils => match op with
      | .eql => nilQ P t rows false
      | .neq => nilQ P t rows true
      | _ => .bad
    | _ => .bad
  | .nils => match y with
    | .nils => match op with
      | .eql => .val ((P.underlying t).any isSlD = true) (.bool true)
      | .neq => .val ((P.underlying t).any isSlD = true) (.bool false)
      | _ => .bad
    | _ => .bad
  | .nilif => match y with
    | .nilif => match op with
      | .eql => .val ((P.underlying t).any isIfD = true ∧ nc = true) (.bool true)
      | .neq => .val ((P.underlying t).any isIfD = true ∧ nc = true) (.bool false)
      | _ => .bad
    | _ => .bad
  | .iface _ _ => match y with
    | .nilif => match op with
      | .eql => .val ((P.underlying t).any isIfD = true) (.bool false)
      | .neq => .val ((P.underlying t).any isIfD = true) (.bool true)
      | _ => .bad
    | _ => .bad
  | _ => .bad
def qun (op : UnOp) (x : V) : QR :=
  match op with
  | .not => match x with
    | .bool b => .val True (.bool (!b))
    | _ => .bad
  | .neg => match x with
    | .int k n => .val True (.int k (k.wrap (0 - n)))
    | _ => .bad
  | .xor => match x with
    | .int k n => .val True (.int k (bCom k n))
    | _ => .bad
  | _ => .bad
def zcells (P : Program) (t : TypeId) : Option (List V) :=
  match P.info? t with
  | some i => match i.zero with
    | some z => some (z.cells.toList.map cv)
    | none => none
  | none => none
def putCells (cs : List V) (off : Nat) : List V → List V
  | [] => cs
  | x :: xs => putCells (cs.set off x) (off + 1) xs
def V.ok : V → Bool
  | .junk | .tup _ => false
  | _ => true
def fillV (place : Nat → Option (Nat × Nat)) (cs : List V) : List (Nat × V) → Option (List V)
  | [] => some cs
  | (i, v) :: rest =>
    match place i with
    | none => none
    | some (off, size) => if v.ok = false ∨ v.cells.length ≠ size ∨ off + size > cs.length then none else fillV place (putCells cs off v.cells) rest
def placesOf (P : Program) (t : TypeId) : Option (Prop × (Nat → Option (Nat × Nat))) :=
  match P.underlying t with
  | some (.struct fs) => some (∀ f ∈ fs.toList, 0 < P.cellsOf f.type, fun i => (fs[i]?).map fun f => (f.offset, P.cellsOf f.type))
  | some (.array _ e) => some (0 < P.cellsOf e, fun i => some (i * P.cellsOf e, P.cellsOf e))
  | _ => none
def sat (s : ByteArray) (i : Int) : Int := ((s[i.toNat]?).getD 0).toNat
def bound (d : Int) : Option V → Option Int
  | none => some d
  | some (.int _ n) => some n
  | _ => none
def seqParts : Nat → List (Nat × V) → Bool
  | _, [] => true
  | k, (i, _) :: rest => i == k && seqParts (k + 1) rest
/-- A row of cells, told element by element. -/
def chunkV (sz : Nat) : Nat → List V → List (List V)
  | 0, _ => []
  | n + 1, l => l.take sz :: chunkV sz n (l.drop sz)

/-- The greatest, or the least, of numbers. -/
def mmV (mx : Bool) : V → List V → Option V
  | .int k a, [] => some (.int k a)
  | .int k a, .int _ b :: l => mmV mx (.int k (if (if mx = true then a < b else b < a) then b else a)) l
  | _, _ => none
def mmR : Option V → QR
  | some v => .val True v
  | none => .bad
/-- Names of the call's own among the cells? -/
def V.isOwn : V → Bool
  | .own _ | .ptr _ _ | .eptr _ _ _ _ | .mp _ => true
  | _ => false
def ownCells : List V → Bool
  | [] => false
  | c :: cs => c.isOwn || ownCells cs
def ownRows : List (List V) → Bool
  | [] => false
  | r :: rs => ownCells r || ownRows rs
/-- A new row of elements. -/
def slNew (o : Bool) (sz : Nat) (el : TypeId) (rows : List (List V)) : QR :=
  if o = true then .new (∀ r ∈ rows, r.length = sz ∧ ∀ c ∈ r, c.one = true) (.slo sz el rows) else .new (∀ r ∈ rows, r.length = sz ∧ ∀ c ∈ r, c.tree = true ∧ c.one = true) (.sl sz el rows)
/-- Where a string stands among a map's keys: its value. -/
def mget : List V → List V → ByteArray → Option V
  | .str a :: ks, v :: vs, s => if a = s then some v else mget ks vs s
  | _, _, _ => none
/-- Are all keys strings? -/
def mstr : List V → Bool
  | [] => true
  | .str _ :: ks => mstr ks
  | _ => false
def zval (P : Program) (t : TypeId) : Option V :=
  match P.info? t with
  | some i => match i.zero with
    | some z => some (cv z)
    | none => none
  | none => none
def mlook (P : Program) (et : TypeId) (ok : Bool) (ks vs : List V) (s : ByteArray) : QR :=
  match mget ks vs s with
  | some v => .val (mstr ks = true ∧ ks.length = vs.length) (if ok then .tup [v, .bool true] else v)
  | none => match zval P et with
    | some z => .val (mstr ks = true ∧ ks.length = vs.length) (if ok then .tup [z, .bool false] else z)
    | none => .bad
def qlook (P : Program) (hp : Nat → Option Blk) (t : TypeId) (ok : Bool) (m k : V) : QR :=
  match P.underlying t with
  | some (.map kt et) => match P.underlying kt with
    | some .string => match k with
      | .str s => match m with
        | .mp b => match hp b with
          | some (.map ks vs) => mlook P et ok ks vs s
          | _ => .bad
        | .mrd ks vs => mlook P et ok ks vs s
        | .nilm => mlook P et ok [] [] s
        | _ => .bad
      | _ => .bad
    | _ => .bad
  | _ => .bad
/-- No room: x[0:0:0]. -/
def qnone (P : Program) (el : TypeId) (x : V) : QR :=
  match x with
  | .rd sz _ => .new (0 < sz ∧ sz = P.cellsOf el) (.sl sz el [])
  | .nils => .new (0 < P.cellsOf el) (.sl (P.cellsOf el) el [])
  | .own _ => .new (0 < P.cellsOf el) (.sl (P.cellsOf el) el [])
  | _ => .bad
def qmake (P : Program) (el : TypeId) (l c : V) : QR :=
  match l with
  | .int _ n => match c with
    | .int _ m => match zcells P el with
      | some z => .new (n = m ∧ 0 ≤ n ∧ n ≤ 9223372036854775807 ∧ n * P.bytesOf el ≤ 140737488355328 ∧ 0 < P.cellsOf el ∧ z.length = P.cellsOf el ∧ z.all V.tree = true) (.sl (P.cellsOf el) el (List.replicate n.toNat z))
      | none => .bad
    | _ => .bad
  | _ => .bad
/-- What is appended: its rows. -/
def srcRows (esz : Nat) (hp : Nat → Option Blk) : V → Option (Nat × List (List V))
  | .rd sz rows => some (sz, rows)
  | .nils => some (esz, [])
  | .own b => match hp b with
    | some (.sl sz _ rows) => some (sz, rows)
    | _ => none
  | _ => none

theorem srcRows_sound {F : Nat → Prop} {E : Env} {hp : Nat → Option Blk} (H : HRel F E hp) {x : V} {u : Value} (hx : R E x u) {sz : Nat} {rows : List (List V)} {esz : Nat} (h : srcRows esz hp x = some (sz, rows)) (hsz : 0 < sz) :
    ∃ ad c news, u = .slice ad rows.length c ∧ news.length = rows.length * sz ∧ RL E rows.flatten news ∧ (∀ j u, news[j]? = some u → ∃ a, ad = some a ∧ E.w.cell? (a.add j) = some u) ∧ (∀ u ∈ news, u.oneCell' = true) ∧
      (∀ r ∈ rows, r.length = sz ∧ ∀ c ∈ r, c.tree = true) := by
  cases x with
  | rd sz' rows' =>
    simp only [srcRows, Option.some.injEq, Prod.mk.injEq] at h
    obtain ⟨rfl, rfl⟩ := h
    simp only [R] at hx
    obtain ⟨ad, cap, rfl, hcap, hml, hrows⟩ := hx
    rcases hrows with rfl | ⟨g, o, rfl, hO, hg, hun, hr⟩
    · exact ⟨ad, cap, [], rfl, by simp, by simp [RL], by simp, by simp, by simp⟩
    · obtain ⟨news, k1, k2, k3⟩ := RRows.list hr
      exact ⟨_, cap, news, rfl, by rw [k1.length, length_flatten_uni (fun r hr => (hun r hr).1)], k1, fun j u hu => ⟨_, rfl, by rw [Addr.add_lit]; exact k2 j u hu⟩, k3, hun⟩
  | nils =>
    simp only [srcRows, Option.some.injEq, Prod.mk.injEq] at h
    obtain ⟨rfl, rfl⟩ := h
    simp only [R] at hx
    subst hx
    exact ⟨none, 0, [], rfl, by simp, by simp [RL], by simp, by simp, by simp⟩
  | own b =>
    simp only [srcRows] at h
    split at h
    · rename_i sz' ty rows' hbk
      simp only [Option.some.injEq, Prod.mk.injEq] at h
      obtain ⟨rfl, rfl⟩ := h
      simp only [R] at hx
      obtain ⟨hD, rfl, _⟩ := hx
      rcases (H.blk b _ hbk).2 with ⟨vs, hown, hR, h1, _, hun, _⟩ | ⟨h0, _, ad0, hσ⟩
      case inr => subst h0; exact ⟨ad0, 0, [], hσ, by simp, by simp [RL], by simp, by simp, by simp⟩
      rcases hown.2 with ⟨hv, hn0⟩ | ⟨g, cap, cur, hv, _⟩
      · have hvs : vs = [] := List.eq_nil_of_length_eq_zero (by rw [hown.1, hn0]; simp)
        subst hvs
        exact ⟨none, 0, [], by rw [hv, hn0], by rw [hn0]; simp, hR, by simp, by simp, hun⟩
      · exact ⟨_, cap, vs, hv, hown.1, hR, fun j u hu => ⟨_, rfl, (hown.cells (g := g) (by rw [hv]; rfl)) j u hu⟩, h1, hun⟩
    · exact absurd h (by simp)
  | _ => simp [srcRows] at h
/-! Strings out of bytes. -/
def isB : List V → Bool
  | [.int .u8 _] => true
  | _ => false
def bOf : List V → Int
  | [.int .u8 n] => n
  | _ => 0
/-- The bytes of rows, as a string. -/
def strR (rows : List (List V)) : ByteArray := (rows.map bOf).foldl (fun r n => r.push (UInt8.ofNat n.toNat)) ByteArray.empty
def byteSl (P : Program) (t : TypeId) : Bool := match P.underlying t with
  | some (.slice el) => match P.underlying el with
    | some (.int .u8) => true
    | _ => false
  | _ => false
def qbytes (P : Program) (t : TypeId) (sz : Nat) (rows : List (List V)) : QR := if byteSl P t = true then .val (sz = 1 ∧ rows.all isB = true) (.str (strR rows)) else .bad
theorem RL.bytes {E : Env} : ∀ {rows : List (List V)} {news : List Value}, rows.all isB = true → RL E rows.flatten news → news = (rows.map bOf).map (Value.int .u8)
  | [], news, _, h => by simp only [List.flatten_nil, RL] at h; subst h; rfl
  | r :: rows, news, ha, h => by
    rw [List.all_cons, Bool.and_eq_true] at ha
    obtain ⟨hr, ha⟩ := ha
    unfold isB at hr
    split at hr
    · rename_i n
      simp only [List.flatten_cons, List.singleton_append, RL, R] at h
      obtain ⟨v, vs, rfl, rfl, h2⟩ := h
      rw [RL.bytes ha h2]
      rfl
    · cases hr
theorem bytes_sound {P : Program} {F : Nat → Prop} {E : Env} {hp : Nat → Option Blk} (H : HRel F E hp) {x : V} {u : Value} (hx : R E x u) {src dst : TypeId} {sz : Nat} {rows : List (List V)} (hsrc : srcRows 1 hp x = some (sz, rows))
    (hb : byteSl P src = true) (hd : P.underlying dst = some .string) (hz : sz = 1) (ha : rows.all isB = true) : (convert src dst u).run P E.w = .ok (.string (strR rows)) E.w := by
  unfold byteSl at hb
  split at hb
  · rename_i el hs
    split at hb
    · rename_i he
      obtain ⟨ad, c, news, rfl, hl, hR, hcell, h1, hun⟩ := srcRows_sound H hx hsrc (by omega)
      rw [run_convert_bytes_string _ src dst el ad _ c hs he hd]
      have hn := RL.bytes ha hR
      cases ad with
      | none =>
        have hr : rows = [] := by
          cases rows with
          | nil => rfl
          | cons r rows =>
            have h0 : 0 < news.length := by rw [hl, hz]; simp
            obtain ⟨a, h, _⟩ := hcell 0 _ (List.getElem?_eq_getElem h0)
            cases h
        subst hr
        rfl
      | some a =>
        have hlen : rows.length = news.length := by rw [hl, hz, Nat.mul_one]
        rw [hlen]
        refine run_bytesToString _ a _ c _ ?_
        rw [← hn]
        exact run_loadCells_list _ a news fun j v hj => by
          obtain ⟨a', h, h2⟩ := hcell j v hj
          cases h; exact h2
    · cases hb
  · cases hb
def qf (P : Program) (hp : Nat → Option Blk) (e : Operand → V) : Op → QR
  | .move x => .val True (e x)
  | .assign x => .val True (e x)
  | .pick c a b => match e c with
    | .bool t => .val True (if t then e a else e b)
    | _ => .bad
  | .alloc t => match zcells P t with
    | some cs => .new (cs.all V.one = true) (.box t cs)
    | none => .bad
  | .box t x => .new ((e x).cells.all V.one = true) (.box t (e x).cells)
  | .load t p => match P.underlying t with
    | some d => match cellsAt hp (e p) with
      | some cc => loadV P t d cc.1 cc.2
      | none => .bad
    | none => .bad
  | .nilCheck x => match e x with
    | .ptr b o => .val True (.ptr b o)
    | .eptr b s i o => .val True (.eptr b s i o)
    | .rptr r o => .val True (.rptr r o)
    | .fn f i c => .val True (.fn f i c)
    | _ => .bad
  | .binOp op t x y _ => qbin P op t (isNC x || isNC y) (e x) (e y)
  | .unOp op _ x => qun op (e x)
  | .convert src dst x => match P.underlying src with
    | some _ => match P.underlying dst with
      | some (.int k) => match e x with
        | .int _ n => .val True (.int k (k.wrap n))
        | _ => .bad
      | some .string => match e x with
        | .str s => .val True (.str s)
        | .rd sz rows => qbytes P src sz rows
        | .nils => qbytes P src 1 []
        | .own b => match hp b with
          | some (.sl sz _ rows) => qbytes P src sz rows
          | _ => .bad
        | _ => .bad
      | _ => .bad
    | none => .bad
  | .makeInterface t x => match P.underlying t with
    | some (.interface _) => .bad
    | some _ => .val True (.iface t (e x))
    | none => .bad
  | .makeFunc fn first caps => match fn with
    | .func f => .val True (.fn f (first.toList.map e) (caps.toList.map e))
    | _ => .bad
  | .makeMap _ r => match r with
    | none => .new True (.map [] [])
    | some _ => .bad
  | .lookup t m k ok => qlook P hp t ok (e m) (e k)
  | .makeSlice t l c => match P.underlying t with
    | some (.slice el) => qmake P el (e l) (e c)
    | _ => .bad
  | .slice t x lo hi mx => match mx with
    | some m => match P.underlying t with
      | some (.slice el) => if bound 0 (lo.map e) = some 0 ∧ bound 1 (hi.map e) = some 0 ∧ bound 1 (some (e m)) = some 0 then qnone P el (e x) else .bad
      | _ => .bad
    | none => match P.underlying t with
      | some .string => match e x with
        | .str s => match bound 0 (lo.map e) with
          | some l => match bound s.size (hi.map e) with
            | some h => .val (0 ≤ l ∧ l ≤ h ∧ h ≤ s.size) (.str (s.extract l.toNat h.toNat))
            | none => .bad
          | none => .bad
        | _ => .bad
      | some (.slice el) => match e x with
        | .rd sz rows => match bound 0 (lo.map e) with
          | some l => match bound rows.length (hi.map e) with
            | some h => .val ((0 < sz ∧ sz = P.cellsOf el) ∧ 0 ≤ l ∧ l ≤ h ∧ h ≤ rows.length) (.rd sz ((rows.drop l.toNat).take (h.toNat - l.toNat)))
            | none => .bad
          | none => .bad
        | _ => .bad
      | some (.array n el) => match lo, hi with
        | none, none => match e x with
          | .rptr row off => .val (0 < P.cellsOf el ∧ off + n * P.cellsOf el ≤ row.length ∧ n ≤ maxLen) (.rd (P.cellsOf el) (chunkV (P.cellsOf el) n (row.drop off)))
          | _ => .bad
        | _, _ => match e x with
          | .rptr row off => match bound 0 (lo.map e) with
            | some l => match bound n (hi.map e) with
              | some h => .val ((0 < P.cellsOf el ∧ off + n * P.cellsOf el ≤ row.length ∧ n ≤ maxLen) ∧ 0 ≤ l ∧ l ≤ h ∧ h ≤ n) (.rd (P.cellsOf el) (((chunkV (P.cellsOf el) n (row.drop off)).drop l.toNat).take (h.toNat - l.toNat)))
              | none => .bad
            | none => .bad
          | _ => .bad
      | _ => .bad
  | .fieldAddr s x f => match P.underlying s with
    | some (.struct fs) => match fs[f]? with
      | some fd => if P.cellsOf fd.type = 0 then .bad else match e x with
        | .ptr b o => .val True (.ptr b (o + fd.offset))
        | .eptr b sz i o => .val True (.eptr b sz i (o + fd.offset))
        | .rptr r o => .val True (.rptr r (o + fd.offset))
        | _ => .bad
      | none => .bad
    | _ => .bad
  | .field t x f => match P.underlying t with
    | some (.struct fs) => match fs[f]? with
      | some fd => match e x with
        | .agg cs => match P.underlying fd.type with
          | some d => loadV P fd.type d True (cs.drop fd.offset)
          | none => .bad
        | _ => .bad
      | none => .bad
    | _ => .bad
  | .indexAddr t x i => match e i with
    | .int _ n => match P.underlying t with
      | some (.slice el) => match e x with
        | .rd sz rows => .val ((0 < sz ∧ sz = P.cellsOf el) ∧ 0 ≤ n ∧ n < rows.length) (.rptr (rows.getD n.toNat []) 0)
        | .own b => match hp b with
          | some (.sl sz _ rows) => .val ((0 < sz ∧ sz = P.cellsOf el) ∧ 0 ≤ n ∧ n < rows.length) (.eptr b sz n.toNat 0)
          | some (.slo sz _ rows) => .val ((0 < sz ∧ sz = P.cellsOf el) ∧ 0 ≤ n ∧ n < rows.length) (.eptr b sz n.toNat 0)
          | _ => .bad
        | _ => .bad
      | some (.array len el) => match e x with
        | .ptr b o => .val (0 < P.cellsOf el ∧ 0 ≤ n ∧ n < len) (.ptr b (o + n.toNat * P.cellsOf el))
        | .rptr r o => .val (0 < P.cellsOf el ∧ 0 ≤ n ∧ n < len) (.rptr r (o + n.toNat * P.cellsOf el))
        | _ => .bad
      | _ => .bad
    | _ => .bad
  | .index t x i => match e i with
    | .int _ n => match P.underlying t with
      | some .string => match e x with
        | .str s => .val (0 ≤ n ∧ n < s.size) (.int .u8 (sat s n))
        | _ => .bad
      | some (.array len el) => match e x with
        | .agg cs => match P.underlying el with
          | some d => loadV P el d (0 ≤ n ∧ n < len) (cs.drop (n.toNat * P.cellsOf el))
          | none => .bad
        | _ => .bad
      | _ => .bad
    | _ => .bad
  | .extract x i => match e x with
    | .tup vs => match vs[i]? with
      | some v => .val True v
      | none => .bad
    | _ => .bad
  | .build t parts => match placesOf P t with
    | some pl => match zcells P t with
      | some z => match fillV pl.2 z (parts.toList.map fun p => (p.1, e p.2)) with
        | some cs => .val pl.1 (.agg cs)
        | none => .bad
      | none => .bad
    | none => .bad
  | .buildSlice t n parts => match P.underlying t with
    | some (.slice el) => if seqParts 0 (parts.toList.map fun p => (p.1, e p.2)) = true ∧ parts.size = n ∧ 0 < P.cellsOf el ∧ n * P.cellsOf el ≤ 2 ^ 24 ∧ (zcells P el).isSome = true
      then slNew (ownRows (parts.toList.map fun p => (e p.2).cells)) (P.cellsOf el) el (parts.toList.map fun p => (e p.2).cells) else .bad
    | _ => .bad
  | .call c => match c.callee with
    | .builtin .len => match c.args.toList with
      | [x] => match c.argTypes.toList with
        | [t] => match P.underlying t with
          | some .string => match e x with
            | .str s => .val True (.int .i64 s.size)
            | _ => .bad
          | some (.slice _) => match e x with
            | .rd _ rows => .val True (.int .i64 rows.length)
            | .nils => .val True (.int .i64 0)
            | .own b => match hp b with
              | some (.sl _ _ rows) => .val True (.int .i64 rows.length)
              | some (.slo _ _ rows) => .val True (.int .i64 rows.length)
              | _ => .bad
            | _ => .bad
          | some (.array n _) => .val True (.int .i64 n)
          | _ => .bad
        | _ => .bad
      | _ => .bad
    | .builtin .max => match c.args.toList with
      | x :: l => mmR (mmV true (e x) (l.map e))
      | _ => .bad
    | .builtin .min => match c.args.toList with
      | x :: l => mmR (mmV false (e x) (l.map e))
      | _ => .bad
    | _ => .bad
  | _ => .bad

/-! ### The quiet operations do what is said -/
theorem ok_bind {P : Program} {α β : Type} {x : Sem α} {f : α → Sem β} {w w' : World} {a : α} (h : x.run P w = .ok a w') : (x >>= f).run P w = (f a).run P w' := by
  simp [h]
theorem info_of_underlying {P : Program} {t : TypeId} {d : TypeDesc} (h : P.underlying t = some d) : ∃ i, P.info? t = some i := by
  unfold Program.underlying at h
  cases hi : P.info? t with
  | none => simp [hi] at h
  | some i => exact ⟨i, rfl⟩
theorem run_sizeOf' {P : Program} {t : TypeId} {i : TypeInfo} (h : P.info? t = some i) (w : World) : (sizeOf t).run P w = .ok (P.cellsOf t) w := by
  simp [sizeOf, typeInfo, h, Program.cellsOf]
theorem run_isAgg' {P : Program} {t : TypeId} {d : TypeDesc} (h : P.underlying t = some d) (w : World) : (isAgg t).run P w = .ok (isAggD d) w := by
  simp only [isAgg, Sem.run_bind, run_underlying h, Result.andThen_ok]
  cases d <;> rfl
theorem run_loadVar' {P : Program} {E : Env} {t : TypeId} {d : TypeDesc} (hd : P.underlying t = some d) {g o : Nat} {cs : List V} {vs : List Value} (hR : RL E cs vs)
    (hcell : ∀ j u, vs[j]? = some u → E.w.cell? ⟨g, o + j, none⟩ = some u) {c c' : Prop} {v : V} (h : loadV P t d c cs = .val c' v) (hc : c') :
    ∃ u, (loadVar t ⟨g, o, none⟩).run P E.w = .ok u E.w ∧ R E v u := by
  obtain ⟨i, hi⟩ := info_of_underlying hd
  unfold loadV at h
  simp only [loadVar, Sem.run_bind, run_isAgg' hd, Result.andThen_ok]
  split at h
  · rename_i hagg
    simp only [QR.val.injEq] at h
    obtain ⟨rfl, rfl⟩ := h
    simp only [hagg, if_true, Sem.run_bind, run_sizeOf' hi, Result.andThen_ok]
    have hlen : (vs.take (P.cellsOf t)).length = P.cellsOf t := by rw [List.length_take, hR.length]; omega
    have := run_loadCells_list (P := P) (w := E.w) ⟨g, o, none⟩ (vs.take (P.cellsOf t)) (fun j u hu => by
      rw [List.getElem?_take] at hu
      split at hu
      · rw [Addr.add_lit]; exact hcell j u hu
      · cases hu)
    rw [hlen] at this
    simp only [this, Result.andThen_ok, Sem.run_pure]
    exact ⟨_, rfl, by simp only [R]; exact ⟨_, rfl, hR.take _⟩⟩
  · rename_i hagg
    simp only [hagg, Bool.false_eq_true, if_false]
    cases cs with
    | nil => simp at h
    | cons x cs =>
      simp only [QR.val.injEq] at h
      obtain ⟨rfl, rfl⟩ := h
      simp only [RL] at hR
      obtain ⟨u, vs', rfl, h1, _⟩ := hR
      have := hcell 0 u rfl
      simp only [Nat.add_zero] at this
      exact ⟨u, by simp [this], h1⟩
theorem run_part' {P : Program} {E : Env} {t : TypeId} {d : TypeDesc} (hd : P.underlying t = some d) {cs : List V} {vs : List Value} {off : Nat} (hR : RL E cs vs)
    {c c' : Prop} {v : V} (h : loadV P t d c (cs.drop off) = .val c' v) (hc : c') :
    ∃ u, (part t vs.toArray off).run P E.w = .ok u E.w ∧ R E v u := by
  obtain ⟨i, hi⟩ := info_of_underlying hd
  unfold loadV at h
  simp only [part, Sem.run_bind, run_isAgg' hd, Result.andThen_ok]
  split at h
  · rename_i hagg
    simp only [QR.val.injEq] at h
    obtain ⟨rfl, rfl⟩ := h
    simp only [hagg, if_true, Sem.run_bind, run_sizeOf' hi, Result.andThen_ok, Sem.run_pure]
    refine ⟨_, rfl, ?_⟩
    simp only [R]
    refine ⟨(vs.drop off).take (P.cellsOf t), ?_, (hR.drop off).take _⟩
    congr 1
    rw [List.extract_toArray, List.extract_eq_take_drop]
    congr 2
    omega
  · rename_i hagg
    simp only [hagg, Bool.false_eq_true, if_false]
    have hR2 := hR.drop off
    generalize hcs : cs.drop off = ds at h hR2
    cases ds with
    | nil => simp at h
    | cons x ds =>
      simp only [QR.val.injEq] at h
      obtain ⟨rfl, rfl⟩ := h
      simp only [RL] at hR2
      obtain ⟨u, vs', e, h1, _⟩ := hR2
      have : vs[off]? = some u := by
        have h0 : (vs.drop off)[0]? = some u := by rw [e]; rfl
        simpa using h0
      exact ⟨u, by simp [this], h1⟩

section
variable {P : Program} {E : Env}
theorem ibin_sound {op : BinOp} {k : IntKind} {m n : Int} {c : Prop} {v : V} (h : ibin op k m n = .val c v) (hc : c) (hs : op ≠ .shl) (hr : op ≠ .shr) (t : TypeId) :
    ∃ u, (binOp op t (.int k m) (.int k n)).run P E.w = .ok u E.w ∧ R E v u := by
  cases op <;> simp only [ibin, QR.val.injEq, reduceCtorEq] at h <;> (try exact absurd rfl hs) <;> (try exact absurd rfl hr) <;>
    obtain ⟨rfl, rfl⟩ := h <;> refine ⟨_, ?_, by simp only [R]; rfl⟩ <;>
    simp [binOp, Op.intArith, Op.intDiv, Op.intBits, Op.intCmp, bAnd, bOr, bXor, beq_dec, bne_dec] <;> first | (intro h0; exact absurd h0 hc) | skip
theorem sbin_sound {op : BinOp} {m n : ByteArray} {c : Prop} {v : V} (h : sbin op m n = .val c v) (hc : c) (t : TypeId) :
    ∃ u, (binOp op t (.string m) (.string n)).run P E.w = .ok u E.w ∧ R E v u := by
  have e : binOp op t (.string m) (.string n) = Op.stringOp op m n := by cases op <;> rfl
  rw [e]
  cases op <;> simp only [sbin, QR.val.injEq, reduceCtorEq] at h <;>
    obtain ⟨rfl, rfl⟩ := h <;> refine ⟨_, ?_, by simp only [R]; rfl⟩ <;>
    simp [Op.stringOp, beq_dec, bne_dec]
  push_cast at hc
  exact hc
theorem equalIn_bool {t : TypeId} (ht : P.underlying t = some .bool) (d : Nat) (a b : Bool) (w : World) : (Op.equalIn (d + 1) t (.bool a) (.bool b)).run P w = .ok (a == b) w := by
  simp only [Op.equalIn, Sem.run_bind, run_underlying ht, Result.andThen_ok, Sem.run_pure]
theorem equal_bool {t : TypeId} (ht : P.underlying t = some .bool) (a b : Bool) (w : World) : (Op.equal t (.bool a) (.bool b)).run P w = .ok (a == b) w :=
  equalIn_bool ht 9999 a b w
end

section
variable {P : Program} {E : Env} {F : Nat → Prop} {hp : Nat → Option Blk} {a : Act} {e : Operand → V}

theorem isNC_eq {x : Operand} (h : isNC x = true) : x = .const .nilIface := by
  unfold isNC at h
  split at h
  · rfl
  · cases h
theorem qbin_sound {op : BinOp} {t : TypeId} {x y : Operand} {X Y : V} {u1 u2 : Value} (h1 : R E X u1) (h2 : R E Y u2) {c : Prop} {v : V} (h : qbin P op t (isNC x || isNC y) X Y = .val c v) (hc : c) :
    ∃ u, (do eqGuard op t x y u1 u2; binOp op t u1 u2).run P E.w = .ok u E.w ∧ R E v u := by
  unfold qbin at h
  split at h
  · split at h
    · simp only [R] at h1 h2
      subst h1 h2
      rename_i k m _ k' n
      rw [eqGuard_at_int, pure_bind]
      split at h
      · simp only [QR.val.injEq] at h
        obtain ⟨rfl, rfl⟩ := h
        refine ⟨_, ?_, by simp only [R]; rfl⟩
        have : ¬ n < 0 := by omega
        simp [binOp, Op.shift, this, bShl, bShr]
      · simp only [QR.val.injEq] at h
        obtain ⟨rfl, rfl⟩ := h
        refine ⟨_, ?_, by simp only [R]; rfl⟩
        have : ¬ n < 0 := by omega
        simp [binOp, Op.shift, this, bShl, bShr]
      · split at h
        · rename_i hs hr hk
          subst hk
          exact ibin_sound h hc hs hr t
        · exact absurd h (by simp)
    · exact absurd h (by simp)
  · split at h
    · simp only [R] at h1 h2
      subst h1 h2
      rw [eqGuard_at_string, pure_bind]
      exact sbin_sound h hc t
    · exact absurd h (by simp)
  · split at h
    · simp only [R] at h1 h2
      subst h1 h2
      rw [eqGuard_at_bool, pure_bind]
      split at h <;> first
        | (simp only [QR.val.injEq] at h
           obtain ⟨rfl, rfl⟩ := h
           refine ⟨_, ?_, by simp only [R]; rfl⟩
           simp [binOp, equal_bool hc, beq_dec])
        | exact absurd h (by simp)
    · exact absurd h (by simp)
  · split at h
    · simp only [R] at h1 h2
      obtain ⟨us, rfl, h1⟩ := h1
      obtain ⟨vs, rfl, h2⟩ := h2
      split at h <;> first
        | (simp only [QR.val.injEq] at h
           obtain ⟨rfl, rfl⟩ := h
           refine ⟨_, ?_, by simp only [R]; rfl⟩
           rw [ok_bind (hc E us vs _ x y h1 h2).1]
           simp [binOp, (hc E us vs .eql x y h1 h2).2])
        | exact absurd h (by simp)
    · exact absurd h (by simp)
  · split at h
    · rename_i sz rows _
      simp only [R] at h1 h2
      subst h2
      obtain ⟨ad, cap, rfl, _, _, hr⟩ := h1
      have core : ∀ neg, nilQ P t rows neg = .val c v → (P.underlying t).any isSlD = true ∧ R E v (.bool (if neg then !ad.isNone else ad.isNone)) := by
        intro neg h
        unfold nilQ at h
        split at h
        · simp only [QR.val.injEq] at h
          obtain ⟨rfl, rfl⟩ := h
          exact ⟨hc, by simp only [R]; exact ⟨_, rfl⟩⟩
        · rename_i hne
          simp only [QR.val.injEq] at h
          obtain ⟨rfl, rfl⟩ := h
          refine ⟨hc, ?_⟩
          rcases hr with rfl | ⟨g, o, rfl, _⟩
          · exact absurd rfl hne
          · cases neg <;> simp [R]
      have sl : ∀ el, P.underlying t = some (.slice el) → ∀ n k, (Op.equal t (.slice ad n k) (.slice none 0 0)).run P E.w = .ok ad.isNone E.w := by
        intro el hel n k
        show (Op.equalIn (9999 + 1) t (.slice ad n k) (.slice none 0 0)).run P E.w = _
        unfold Op.equalIn
        cases ad <;> simp [run_underlying hel]
      split at h
      · obtain ⟨h3, h4⟩ := core _ h
        obtain ⟨d, hd, hsl⟩ := (Option.any_eq_true _ _).1 h3
        cases d <;> simp [isSlD] at hsl
        rename_i el
        refine ⟨_, ?_, h4⟩
        simp [eqGuard, binOp, sl el hd]
      · obtain ⟨h3, h4⟩ := core _ h
        obtain ⟨d, hd, hsl⟩ := (Option.any_eq_true _ _).1 h3
        cases d <;> simp [isSlD] at hsl
        rename_i el
        refine ⟨_, ?_, h4⟩
        simp [eqGuard, binOp, sl el hd]
      · exact absurd h (by simp)
    · exact absurd h (by simp)
  · split at h
    · simp only [R] at h1 h2
      subst h1 h2
      have sl : ∀ el, P.underlying t = some (.slice el) → (Op.equal t (.slice none 0 0) (.slice none 0 0)).run P E.w = .ok true E.w := by
        intro el hel
        show (Op.equalIn (9999 + 1) t (.slice none 0 0) (.slice none 0 0)).run P E.w = _
        unfold Op.equalIn
        simp [run_underlying hel]
      split at h <;> first
        | (simp only [QR.val.injEq] at h
           obtain ⟨rfl, rfl⟩ := h
           obtain ⟨d, hd, hsl⟩ := (Option.any_eq_true _ _).1 hc
           cases d <;> simp [isSlD] at hsl
           refine ⟨_, ?_, by simp only [R]; rfl⟩
           simp [eqGuard, binOp, sl _ hd])
        | exact absurd h (by simp)
    · exact absurd h (by simp)
  · split at h
    · simp only [R] at h1 h2
      subst h1 h2
      have sl : ∀ ms, P.underlying t = some (.interface ms) → (Op.equal t .nilIface .nilIface).run P E.w = .ok true E.w := by
        intro ms hms
        show (Op.equalIn (9999 + 1) t .nilIface .nilIface).run P E.w = _
        unfold Op.equalIn
        simp [run_underlying hms]
      have gd : ∀ op, isNC x = true ∨ isNC y = true → (eqGuard op t x y .nilIface .nilIface).run P E.w = .ok () E.w := by
        intro op hh
        rcases hh with hh | hh
        · obtain rfl := isNC_eq hh
          cases op <;> simp [eqGuard]
        · obtain rfl := isNC_eq hh
          cases op <;> simp [eqGuard]
      split at h <;> first
        | (simp only [QR.val.injEq] at h
           obtain ⟨rfl, rfl⟩ := h
           obtain ⟨hc1, hc2⟩ := hc
           obtain ⟨d, hd, hsl⟩ := (Option.any_eq_true _ _).1 hc1
           cases d <;> simp [isIfD] at hsl
           refine ⟨_, ?_, by simp only [R]; rfl⟩
           rw [ok_bind (gd _ (by simpa using hc2))]
           simp [binOp, sl _ hd])
        | exact absurd h (by simp)
    · exact absurd h (by simp)
  · split at h
    · rename_i tt xx _
      simp only [R] at h1 h2
      subst h2
      obtain ⟨u, rfl, _⟩ := h1
      have sl : ∀ ms, P.underlying t = some (.interface ms) → (Op.equal t (.iface tt u) .nilIface).run P E.w = .ok false E.w := by
        intro ms hms
        show (Op.equalIn (9999 + 1) t (.iface tt u) .nilIface).run P E.w = _
        unfold Op.equalIn
        simp [run_underlying hms]
      split at h <;> first
        | (simp only [QR.val.injEq] at h
           obtain ⟨rfl, rfl⟩ := h
           obtain ⟨d, hd, hsl⟩ := (Option.any_eq_true _ _).1 hc
           cases d <;> simp [isIfD] at hsl
           refine ⟨_, ?_, by simp only [R]; rfl⟩
           simp [eqGuard, binOp, sl _ hd])
        | exact absurd h (by simp)
    · exact absurd h (by simp)
  · exact absurd h (by simp)

theorem qun_sound {op : UnOp} {X : V} {u1 : Value} (h1 : R E X u1) {c : Prop} {v : V} (h : qun op X = .val c v) (hc : c) :
    ∃ u, (Op.unary op u1).run P E.w = .ok u E.w ∧ R E v u := by
  unfold qun at h
  split at h
  · split at h
    · simp only [R] at h1; subst h1
      simp only [QR.val.injEq] at h
      obtain ⟨rfl, rfl⟩ := h
      exact ⟨_, by simp [Op.unary]; rfl, by simp only [R]⟩
    · exact absurd h (by simp)
  · split at h
    · simp only [R] at h1; subst h1
      simp only [QR.val.injEq] at h
      obtain ⟨rfl, rfl⟩ := h
      exact ⟨_, by simp only [Op.unary, Op.intArith, Sem.run_pure]; rfl, by simp only [R]⟩
    · exact absurd h (by simp)
  · split at h
    · simp only [R] at h1; subst h1
      simp only [QR.val.injEq] at h
      obtain ⟨rfl, rfl⟩ := h
      exact ⟨_, by simp only [Op.unary, Op.intBits, Sem.run_pure]; rfl, by simp only [R, bCom]⟩
    · exact absurd h (by simp)
  · exact absurd h (by simp)

theorem bound_sound (he : ∀ x, R E (e x) (a.eval x)) {lo : Option Operand} {d l : Int} (h : bound d (lo.map e) = some l) : (lo = none ∧ l = d) ∨ ∃ x k, lo = some x ∧ a.eval x = .int k l := by
  cases lo with
  | none => simp [bound] at h; exact .inl ⟨rfl, h.symm⟩
  | some x =>
    have := he x
    simp only [Option.map_some, bound] at h
    split at h
    · simp_all
    · rename_i k n hx
      simp only [Option.some.injEq] at h
      simp only [Option.some.injEq] at hx
      subst h
      rw [hx] at this
      simp only [R] at this
      exact .inr ⟨x, k, rfl, this⟩
    · exact absurd h (by simp)
end

section
variable {P : Program} {E : Env} {F : Nat → Prop} {hp : Nat → Option Blk} {a : Act} {e : Operand → V}

theorem putCells_sound : ∀ {xs : List V} {us : List Value} {cs : List V} {vs : List Value} {off : Nat}, RL E xs us → RL E cs vs →
    RL E (putCells cs off xs) ((us.zipIdx.foldl (fun c (p : Value × Nat) => c.set (off + p.2) p.1) vs)) := by
  intro xs
  suffices H : ∀ {xs : List V} {us : List Value} {cs : List V} {vs : List Value} {off k : Nat}, RL E xs us → RL E cs vs →
      RL E (putCells cs (off + k) xs) (((us.zipIdx k).foldl (fun c (p : Value × Nat) => c.set (off + p.2) p.1) vs)) by
    intro us cs vs off h1 h2
    exact H (k := 0) h1 h2
  intro xs
  induction xs with
  | nil => intro us cs vs off k h1 h2; simp only [RL] at h1; subst h1; simpa [putCells] using h2
  | cons x xs ih =>
    intro us cs vs off k h1 h2
    simp only [RL] at h1
    obtain ⟨u, us', rfl, hu, h1⟩ := h1
    simp only [putCells, List.zipIdx_cons, List.foldl_cons]
    have := ih (off := off) (k := k + 1) h1 (RL.set hu (off + k) h2)
    rwa [← Nat.add_assoc] at this
theorem foldl_toList (off : Nat) : ∀ (l : List (Value × Nat)) (arr : Array Value), (l.foldl (fun cs (p : Value × Nat) => cs.setIfInBounds (off + p.2) p.1) arr).toList = l.foldl (fun c (p : Value × Nat) => c.set (off + p.2) p.1) arr.toList
  | [], arr => rfl
  | p :: l, arr => by
    simp only [List.foldl_cons]
    rw [foldl_toList off l]
    simp
theorem R.cells {x : V} {v : Value} (h : R E x v) (hx : x.ok = true) : RL E x.cells v.cells.toList := by
  cases x <;> simp only [V.cells]
  case junk => simp [V.ok] at hx
  case tup vs => simp [V.ok] at hx
  case agg cs => simp only [R] at h; obtain ⟨vs, rfl, h⟩ := h; simpa [Value.cells] using h
  all_goals
    have ho := R.one h rfl
    have : v.cells.toList = [v] := by cases v <;> first | rfl | simp [Value.oneCell'] at ho
    rw [this]
    simp only [RL]
    exact ⟨v, [], rfl, h, rfl⟩
theorem fill_sound (he : ∀ x, R E (e x) (a.eval x)) {pl : Nat → Option (Nat × Nat)} : ∀ {parts : List (Nat × Operand)} {cs cs' : List V} {arr : Array Value},
    fillV pl cs (parts.map fun p => (p.1, e p.2)) = some cs' → RL E cs arr.toList →
    ∃ arr', Instr.fill pl arr (parts.map fun p => (p.1, a.eval p.2)) = some arr' ∧ RL E cs' arr'.toList := by
  intro parts
  induction parts with
  | nil =>
    intro cs cs' arr h hR
    simp only [List.map_nil, fillV, Option.some.injEq] at h
    subst h
    exact ⟨arr, rfl, hR⟩
  | cons p parts ih =>
    intro cs cs' arr h hR
    obtain ⟨i, x⟩ := p
    simp only [List.map_cons, fillV, Instr.fill] at h ⊢
    cases hpl : pl i with
    | none => simp [hpl] at h
    | some os =>
      obtain ⟨off, size⟩ := os
      simp only [hpl] at h ⊢
      split at h
      · exact absurd h (by simp)
      · rename_i hcond
        simp only [not_or, Bool.not_eq_false, ne_eq, Decidable.not_not] at hcond
        obtain ⟨hok, hsz, hoff⟩ := hcond
        have hcl := (he x).cells hok
        have hlen : (a.eval x).cells.size = (e x).cells.length := by simpa using hcl.length
        have hal : arr.size = cs.length := by simpa using hR.length
        have hcond' : ¬ ((decide ((a.eval x).cells.size ≠ size) || decide (off + (a.eval x).cells.size > arr.size)) = true) := by
          simp only [Bool.or_eq_true, decide_eq_true_eq]; rw [hlen, hal]; omega
        rw [if_neg hcond']
        refine ih h ?_
        rw [← Array.foldl_toList, Array.toList_zipIdx, foldl_toList]
        exact putCells_sound hcl hR
end
end Go.Proofs.YtbnjijffkjcmcaaDoor.AL
namespace Go.Proofs.YtbnjijffkjcmcaaDoor.AL
open Go

section
variable {P : Program} {E : Env} {F : Nat → Prop} {hp : Nat → Option Blk} {a : Act} {e : Operand → V}

theorem getD_mem {α : Type} {l : List (List α)} {i : Nat} (h : i < l.length) : l.getD i [] ∈ l := by
  simp [List.getD, h]
theorem info_of_cells {t : TypeId} (h : 0 < P.cellsOf t) : ∃ i, P.info? t = some i := by
  unfold Program.cellsOf at h
  cases hi : P.info? t with
  | none => simp [hi] at h
  | some i => exact ⟨i, rfl⟩
theorem RL.map (he : ∀ x, R E (e x) (a.eval x)) : ∀ (l : List Operand), RL E (l.map e) (l.map a.eval)
  | [] => by simp [RL]
  | x :: l => by simp only [List.map_cons, RL]; exact ⟨_, _, rfl, he x, RL.map he l⟩

theorem run_sliceBounds {b : Bool} {len cap : Nat} (he : ∀ x, R E (e x) (a.eval x)) {lo hi : Option Operand} {l h : Int} (h1 : bound 0 (lo.map e) = some l) (h2 : bound len (hi.map e) = some h)
    (h0 : 0 ≤ l) (hl : l ≤ h) (hh : h ≤ len) (hc : len ≤ cap) (w : World) :
    (Instr.sliceBounds b len cap (lo.map a.eval) (hi.map a.eval) none).run P w = .ok (l.toNat, h.toNat, cap) w := by
  have g2 := bound_sound he h2
  have g1 := bound_sound he h1
  unfold Instr.sliceBounds
  simp only [pure_bind, Option.isSome_none, Bool.false_eq_true, if_false]
  rcases g2 with ⟨rfl, rfl⟩ | ⟨x, k, rfl, hx⟩
  · rcases g1 with ⟨rfl, rfl⟩ | ⟨y, k', rfl, hy⟩
    · simp
    · have : 0 ≤ l ∧ l ≤ (len : Int) := by omega
      simp [hy, Instr.sliceBound, asIntOf, this]
  · have hx' : 0 ≤ h ∧ h ≤ (cap : Int) := by omega
    rcases g1 with ⟨rfl, rfl⟩ | ⟨y, k', rfl, hy⟩
    · simp [hx, Instr.sliceBound, asIntOf, hx']
    · have : 0 ≤ l ∧ l ≤ ((h.toNat : Nat) : Int) := by omega
      simp [hx, hy, Instr.sliceBound, asIntOf, hx', this]
      omega

theorem zcells_sound {t : TypeId} {cs : List V} (h : zcells P t = some cs) : ∃ i z, P.info? t = some i ∧ i.zero = some z ∧ cs = z.cells.toList.map cv := by
  unfold zcells at h
  split at h
  · rename_i i hi
    split at h
    · rename_i z hz
      simp only [Option.some.injEq] at h
      exact ⟨i, z, hi, hz, h.symm⟩
    · exact absurd h (by simp)
  · exact absurd h (by simp)
theorem RL_cvs : ∀ (l : List Value), RL E (l.map cv) l
  | [] => by simp [RL]
  | v :: l => by simp only [List.map_cons, RL]; exact ⟨_, _, rfl, R_cv E v, RL_cvs l⟩

theorem run_places {w : World} : ∀ (fs : List Field), (∀ f ∈ fs, 0 < P.cellsOf f.type) →
    (fs.mapM (m := Sem) fun f => do pure (f.offset, ← sizeOf f.type)).run P w = .ok (fs.map fun f => (f.offset, P.cellsOf f.type)) w
  | [], _ => rfl
  | f :: fs, h => by
    obtain ⟨i, hi⟩ := info_of_cells (P := P) (t := f.type) (h f (by simp))
    simp only [List.mapM_cons, Sem.run_bind, run_sizeOf' hi, Result.andThen_ok, Sem.run_pure, run_places fs (fun g hg => h g (by simp [hg])), List.map_cons]

theorem chunkV_length (sz : Nat) : ∀ (n : Nat) (l : List V), (chunkV sz n l).length = n
  | 0, _ => rfl
  | n + 1, l => by simp [chunkV, chunkV_length sz n]
theorem chunkV_mem (sz : Nat) : ∀ (n : Nat) {l : List V}, n * sz ≤ l.length → ∀ {r : List V}, r ∈ chunkV sz n l → r.length = sz ∧ ∀ c ∈ r, c ∈ l
  | 0, l, _, r, h => by simp [chunkV] at h
  | n + 1, l, hl, r, h => by
    rw [Nat.add_mul] at hl
    simp only [chunkV, List.mem_cons] at h
    rcases h with rfl | h
    · exact ⟨by simp; omega, fun c hc => List.mem_of_mem_take hc⟩
    · obtain ⟨h1, h2⟩ := chunkV_mem sz n (l := l.drop sz) (by simp; omega) h
      exact ⟨h1, fun c hc => List.mem_of_mem_drop (h2 c hc)⟩
theorem RRow.take {E : Env} : ∀ (k : Nat) {row : List V} {g o : Nat}, RRow E row g o → RRow E (row.take k) g o
  | 0, row, g, o, h => by simp only [List.take_zero, RRow]
  | k + 1, [], g, o, h => by simp only [List.take_nil, RRow]
  | k + 1, c :: cs, g, o, h => by
    simp only [RRow, List.take_succ_cons] at h ⊢
    exact ⟨h.1, RRow.take k h.2⟩
theorem RRow.chunk {E : Env} (sz : Nat) : ∀ (n : Nat) {row : List V} {g o : Nat}, n * sz ≤ row.length → RRow E row g o → RRows E (chunkV sz n row) g o
  | 0, row, g, o, _, h => by simp only [chunkV, RRows]
  | n + 1, row, g, o, hl, h => by
    rw [Nat.add_mul] at hl
    simp only [chunkV, RRows]
    refine ⟨RRow.take sz h, ?_⟩
    rw [show (row.take sz).length = sz by simp; omega]
    exact RRow.chunk sz n (by simp; omega) (RRow.drop sz h)
theorem loadV_cond {P : Program} {t : TypeId} {d : TypeDesc} {c c' : Prop} {cs : List V} {v : V} (h : loadV P t d c cs = .val c' v) (hc : c') : c := by
  unfold loadV at h
  split at h
  · simp only [QR.val.injEq] at h; obtain ⟨rfl, _⟩ := h; exact hc.1
  · split at h
    · simp only [QR.val.injEq] at h; obtain ⟨rfl, _⟩ := h; exact hc
    · exact absurd h (by simp)
theorem mm_sound {P : Program} {E : Env} (mx : Bool) : ∀ {l : List V} {x : V} {u0 : Value} {us : List Value}, R E x u0 → RL E l us → ∀ {c : Prop} {v : V}, mmR (mmV mx x l) = .val c v →
    ∃ u, (us.foldlM (if mx = true then Builtin.max2 else Builtin.min2) u0).run P E.w = .ok u E.w ∧ R E v u
  | [], x, u0, us, hx, hl, c, v, h => by
    simp only [RL] at hl
    subst hl
    cases x <;> simp only [mmV, mmR, QR.val.injEq, reduceCtorEq] at h
    obtain ⟨_, rfl⟩ := h
    exact ⟨u0, by simp [List.foldlM], hx⟩
  | y :: l, x, u0, us, hx, hl, c, v, h => by
    simp only [RL] at hl
    obtain ⟨w, us', rfl, hy, hl⟩ := hl
    cases x <;> simp only [mmV, mmR, reduceCtorEq] at h
    rename_i k a
    cases y <;> simp only [mmV, mmR, reduceCtorEq] at h
    rename_i k' b
    simp only [R] at hx hy
    subst hx hy
    have step : ((if mx = true then Builtin.max2 else Builtin.min2) (.int k a) (.int k' b)).run P E.w = .ok (.int k (if (if mx = true then a < b else b < a) then b else a)) E.w := by
      cases mx <;> simp [Builtin.max2, Builtin.min2]
    obtain ⟨u, hu, hR⟩ := mm_sound mx (x := .int k (if (if mx = true then a < b else b < a) then b else a)) (u0 := .int k (if (if mx = true then a < b else b < a) then b else a)) (by simp only [R]) hl h
    refine ⟨u, ?_, hR⟩
    rw [List.foldlM_cons, Sem.run_bind, step]
    exact hu
theorem bytes_beq (a b : ByteArray) : (a == b) = decide (a = b) := by
  obtain ⟨a⟩ := a; obtain ⟨b⟩ := b
  have : ((⟨a⟩ : ByteArray) == ⟨b⟩) = (a == b) := rfl
  rw [this]
  simp [ByteArray.mk.injEq]
  by_cases h : a = b <;> simp [h]
theorem mget_sound {E : Env} {s : ByteArray} : ∀ {ks vs : List V} {es : List MapEntry} {i : Nat}, RL E ks (es.map (·.key)) → RL E vs (es.map (·.val)) → mstr ks = true →
    match mget ks vs s with
    | some v => ∃ j u, Instr.findNow .string (.string s) es i = some (some (j, u)) ∧ R E v u
    | none => Instr.findNow .string (.string s) es i = some none
  | [], vs, es, i, hk, hv, hm => by
    simp only [RL, List.map_eq_nil_iff] at hk
    subst hk
    simp [mget, Instr.findNow]
  | .str a :: ks, vs, [], i, hk, hv, hm => by simp [RL] at hk
  | .str a :: ks, vs, e :: es, i, hk, hv, hm => by
    simp only [RL, List.map_cons, List.cons.injEq] at hk
    obtain ⟨k0, ks', ⟨rfl, rfl⟩, hk0, hks⟩ := hk
    simp only [R] at hk0
    cases vs with
    | nil => simp [RL] at hv
    | cons v vs =>
      simp only [RL, List.map_cons, List.cons.injEq] at hv
      obtain ⟨v0, vs', ⟨rfl, rfl⟩, hv0, hvs⟩ := hv
      simp only [mstr] at hm
      have ih := mget_sound (s := s) (i := i + 1) hks hvs hm
      simp only [mget, Instr.findNow, hk0, Instr.sameNow]
      by_cases h : a = s
      · subst h
        simp only [if_true, bytes_beq, decide_true]
        exact ⟨i, e.val, rfl, hv0⟩
      · rw [if_neg h]
        have h2 : (s == a) = false := by rw [bytes_beq]; simpa using fun (e : s = a) => h e.symm
        rw [h2]
        exact ih
theorem checkKey_str {P : Program} {kt : TypeId} (hkt : P.underlying kt = some .string) (s : ByteArray) (w : World) {z : Bool} : (Instr.checkKey z 10000 kt (.string s)).run P w = .ok () w := by
  show (Instr.checkKey z (9999 + 1) kt (.string s)).run P w = .ok () w
  unfold Instr.checkKey
  simp only [Sem.run_bind, run_underlying hkt, Result.andThen_ok]
  rfl
theorem qlook_val {P : Program} {E : Env} {F : Nat → Prop} {hp : Nat → Option Blk} (H : HRel F E hp) {t : TypeId} {ok : Bool} {m k : V} {um uk : Value} (hm : R E m um) (hk : R E k uk) {c : Prop} {v : V} (h : qlook P hp t ok m k = .val c v) (hc : c) :
    ∃ u, (Instr.lookup t um uk ok).run P E.w = .ok u E.w ∧ R E v u := by
  unfold qlook at h
  split at h
  case h_2 => cases h
  rename_i kt et hd
  split at h
  case h_2 => cases h
  rename_i hkt
  split at h
  case h_2 => cases h
  rename_i s
  simp only [R] at hk
  subst hk
  have core : ∀ (ks vs : List V) (g : Nat) (arr : Array MapEntry) (clk : Nat), um = .map (some g) → E.w.heap[g]? = some (.map arr clk) → RL E ks (arr.toList.map (·.key)) → RL E vs (arr.toList.map (·.val)) → mlook P et ok ks vs s = .val c v →
      ∃ u, (Instr.lookup t um (.string s) ok).run P E.w = .ok u E.w ∧ R E v u := by
    intro ks vs g arr clk hum hh hks hvs hl
    unfold mlook at hl
    have hg : (getObj g).run P E.w = .ok (.map arr clk) E.w := by simp [getObj, Sem.run, hh]
    have hck : ∀ z, (Instr.checkKey z 10000 kt (.string s)).run P E.w = .ok () E.w := fun z => checkKey_str hkt s E.w
    have hfk : ∀ r, Instr.findNow .string (.string s) arr.toList 0 = some r → (Instr.findKey kt (.string s) arr.toList).run P E.w = .ok r E.w := by
      intro r hr
      unfold Instr.findKey
      simp [run_underlying hkt, hr]
    split at hl
    · rename_i x hx
      simp only [QR.val.injEq] at hl
      obtain ⟨rfl, rfl⟩ := hl
      have := mget_sound (E := E) (s := s) (i := 0) hks hvs hc.1
      rw [hx] at this
      obtain ⟨j, u, hf, hR⟩ := this
      refine ⟨if ok then .tuple #[u, .bool true] else u, ?_, ?_⟩
      · simp [Instr.lookup, run_underlying hd, hum, hg, hck, hfk _ hf]

      · cases ok
        · exact hR
        · simp only [if_true, R, RL]
          exact ⟨[u, .bool true], rfl, _, _, rfl, hR, _, _, rfl, rfl, rfl⟩
    · rename_i hx
      split at hl
      · rename_i z hz
        simp only [QR.val.injEq] at hl
        obtain ⟨rfl, rfl⟩ := hl
        obtain ⟨inf, zv, hi, hzv, rfl⟩ : ∃ inf zv, P.info? et = some inf ∧ inf.zero = some zv ∧ z = cv zv := by
          unfold zval at hz
          split at hz
          · rename_i i hi
            split at hz
            · rename_i zv hzv
              simp only [Option.some.injEq] at hz
              exact ⟨i, zv, hi, hzv, hz.symm⟩
            · cases hz
          · cases hz
        have := mget_sound (E := E) (s := s) (i := 0) hks hvs hc.1
        rw [hx] at this
        have hzr : (zeroValue et).run P E.w = .ok zv E.w := by simp [zeroValue, typeInfo, hi, hzv]
        have hzR : R E (cv zv) zv := R_cv E zv
        refine ⟨if ok then .tuple #[zv, .bool false] else zv, ?_, ?_⟩
        · simp [Instr.lookup, run_underlying hd, hum, hg, hck, hfk _ this, hzr]

        · cases ok
          · exact hzR
          · simp only [if_true, R, RL]
            exact ⟨[zv, .bool false], rfl, _, _, rfl, hzR, _, _, rfl, rfl, rfl⟩
      · cases hl
  have nilm : mlook P et ok [] [] s = .val c v → ∃ u, (Instr.lookup t (.map none) (.string s) ok).run P E.w = .ok u E.w ∧ R E v u := by
    intro hl
    unfold mlook at hl
    simp only [mget] at hl
    have hck : ∀ z, (Instr.checkKey z 10000 kt (.string s)).run P E.w = .ok () E.w := fun z => checkKey_str hkt s E.w
    have hfk : (Instr.findKey kt (.string s) []).run P E.w = .ok none E.w := by
      unfold Instr.findKey
      simp [run_underlying hkt, Instr.findNow]
    split at hl
    · rename_i z hz
      simp only [QR.val.injEq] at hl
      obtain ⟨rfl, rfl⟩ := hl
      obtain ⟨inf, zv, hi, hzv, rfl⟩ : ∃ inf zv, P.info? et = some inf ∧ inf.zero = some zv ∧ z = cv zv := by
        unfold zval at hz
        split at hz
        · rename_i i hi
          split at hz
          · rename_i zv hzv
            simp only [Option.some.injEq] at hz
            exact ⟨i, zv, hi, hzv, hz.symm⟩
          · cases hz
        · cases hz
      have hzr : (zeroValue et).run P E.w = .ok zv E.w := by simp [zeroValue, typeInfo, hi, hzv]
      have hzR : R E (cv zv) zv := R_cv E zv
      refine ⟨if ok then .tuple #[zv, .bool false] else zv, ?_, ?_⟩
      · simp [Instr.lookup, run_underlying hd, hck, hfk, hzr]

      · cases ok
        · exact hzR
        · simp only [if_true, R, RL]
          exact ⟨[zv, .bool false], rfl, _, _, rfl, hzR, _, _, rfl, rfl, rfl⟩
    · cases hl
  split at h
  · rename_i b
    split at h
    · rename_i ks vs hbk
      simp only [R] at hm
      obtain ⟨hD, rfl, g, hg⟩ := hm
      obtain ⟨_, hB⟩ := H.blk b _ hbk
      simp only [BRel] at hB
      obtain ⟨g', arr, clk, hσ, hh, h1, h2, _⟩ := hB
      exact core ks vs g' arr clk hσ hh h1 h2 h
    · cases h
  · rename_i ks vs
    simp only [R] at hm
    obtain ⟨g, arr, clk, rfl, _, _, _, _, hh, h1, h2⟩ := hm
    exact core ks vs g arr clk rfl hh h1 h2 h
  · simp only [R] at hm
    subst hm
    exact nilm h
  · cases h
theorem qf_val (H : HRel F E hp) (he : ∀ x, R E (e x) (a.eval x)) {o : Oper} {c : Prop} {v : V} (h : qf P hp e o.op = .val c v) (hc : c) :
    ∃ u, (execOp a.eval o).run P E.w = .ok (.value u) E.w ∧ R E v u := by
  obtain ⟨dst, op, type, pos, after, guard⟩ := o
  simp only at h
  cases op <;> simp only [qf] at h <;> (try (cases h; done))
  case move x => simp only [QR.val.injEq] at h; obtain ⟨rfl, rfl⟩ := h; exact ⟨a.eval x, by simp [execOp], he x⟩
  case assign x => simp only [QR.val.injEq] at h; obtain ⟨rfl, rfl⟩ := h; exact ⟨a.eval x, by simp [execOp], he x⟩
  case pick x y z =>
    split at h
    · rename_i t ht
      simp only [QR.val.injEq] at h; obtain ⟨rfl, rfl⟩ := h
      have hx := he x
      rw [ht] at hx
      simp only [R] at hx
      refine ⟨if t then a.eval y else a.eval z, by simp [execOp, hx, asBool], ?_⟩
      cases t
      · exact he z
      · exact he y
    · exact absurd h (by simp)
  case alloc t => split at h <;> exact absurd h (by simp)
  case load t p =>
    split at h
    · rename_i d hd
      split at h
      · rename_i cc hcc
        obtain ⟨c0, cs⟩ := cc
        have hc0 : c0 := by
          unfold loadV at h
          split at h
          · simp only [QR.val.injEq] at h; obtain ⟨rfl, _⟩ := h; exact hc.1
          · split at h
            · simp only [QR.val.injEq] at h; obtain ⟨rfl, _⟩ := h; exact hc
            · exact absurd h (by simp)
        obtain ⟨g, off, vs, hv, hR, hcell, _⟩ := cellsAt_sound H (he p) hcc hc0
        obtain ⟨u, hu, hRu⟩ := run_loadVar' hd hR hcell h hc
        exact ⟨u, by simp [execOp, Instr.loadAt, Instr.sureAddr, hv, hu], hRu⟩
      · exact absurd h (by simp)
    · exact absurd h (by simp)
  case nilCheck x =>
    have hx := he x
    split at h <;> first
      | (exfalso; revert h; simp; done)
      | (rename_i hX
         simp only [QR.val.injEq] at h; obtain ⟨rfl, rfl⟩ := h
         rw [hX] at hx
         refine ⟨a.eval x, ?_, hx⟩
         simp only [R] at hx)
    · obtain ⟨_, g, _, hx⟩ := hx; simp [execOp, hx]
    · obtain ⟨_, g, _, _, _, hx⟩ := hx; simp [execOp, hx]
    · obtain ⟨g, _, hx, _⟩ := hx; simp [execOp, hx]
    · obtain ⟨us, vs, hx, _⟩ := hx; simp [execOp, hx]
  case binOp op t x y yt =>
    obtain ⟨u, hu, hR⟩ := qbin_sound (x := x) (y := y) (he x) (he y) h hc
    refine ⟨u, ?_, hR⟩
    simp only [execOp]
    rw [ok_bind hu]
    rfl
  case unOp op t x =>
    obtain ⟨u, hu, hR⟩ := qun_sound (P := P) (he x) h hc
    refine ⟨u, ?_, hR⟩
    simp only [execOp]
    rw [ok_bind hu]
    rfl
  case convert src dst x =>
    split at h
    · rename_i ds hs
      have hx := he x
      split at h
      · rename_i k hd
        split at h
        · rename_i k0 n hX
          simp only [QR.val.injEq] at h; obtain ⟨rfl, rfl⟩ := h
          rw [hX] at hx; simp only [R] at hx
          refine ⟨.int k (k.wrap n), ?_, by simp only [R]⟩
          simp [execOp, convert, run_underlying hs, run_underlying hd, hx, Conv.intToInt]
        · exact absurd h (by simp)
      · rename_i hd
        split at h
        · rename_i s hX
          simp only [QR.val.injEq] at h; obtain ⟨rfl, rfl⟩ := h
          rw [hX] at hx; simp only [R] at hx
          refine ⟨.string s, ?_, by simp only [R]⟩
          simp [execOp, convert, run_underlying hs, run_underlying hd, hx]
        · rename_i sz rows hX
          unfold qbytes at h
          split at h
          · rename_i hb
            simp only [QR.val.injEq] at h; obtain ⟨rfl, rfl⟩ := h
            exact ⟨.string (strR rows), by simp [execOp, bytes_sound H hx (show srcRows 1 hp (e x) = some (sz, rows) by rw [hX]; rfl) hb hd hc.1 hc.2], by simp only [R]⟩
          · exact absurd h (by simp)
        · rename_i hX
          unfold qbytes at h
          split at h
          · rename_i hb
            simp only [QR.val.injEq] at h; obtain ⟨rfl, rfl⟩ := h
            exact ⟨.string (strR []), by simp [execOp, bytes_sound H hx (show srcRows 1 hp (e x) = some (1, []) by rw [hX]; rfl) hb hd rfl rfl], by simp only [R]⟩
          · exact absurd h (by simp)
        · rename_i b hX
          split at h
          · rename_i sz ty rows hbk
            unfold qbytes at h
            split at h
            · rename_i hb
              simp only [QR.val.injEq] at h; obtain ⟨rfl, rfl⟩ := h
              exact ⟨.string (strR rows), by simp [execOp, bytes_sound H hx (show srcRows 1 hp (e x) = some (sz, rows) by rw [hX]; simp only [srcRows]; rw [hbk]) hb hd hc.1 hc.2], by simp only [R]⟩
            · exact absurd h (by simp)
          · exact absurd h (by simp)
        · exact absurd h (by simp)
      · exact absurd h (by simp)
    · exact absurd h (by simp)
  case makeInterface t x =>
    split at h
    · exact absurd h (by simp)
    · rename_i d hd hni
      simp only [QR.val.injEq] at h; obtain ⟨rfl, rfl⟩ := h
      refine ⟨.iface t (a.eval x), ?_, by simp only [R]; exact ⟨_, rfl, he x⟩⟩
      simp only [execOp, Instr.makeInterface, Sem.run_bind, run_underlying hni, Result.andThen_ok]
      cases d <;> first | rfl | exact absurd rfl (hd _)
    · exact absurd h (by simp)
  case makeFunc fn first caps =>
    split at h
    · rename_i f
      simp only [QR.val.injEq] at h; obtain ⟨rfl, rfl⟩ := h
      refine ⟨.func (.func f) (first.map a.eval) (caps.map a.eval), by simp [execOp, Instr.makeFunc], ?_⟩
      simp only [R]
      exact ⟨first.toList.map a.eval, caps.toList.map a.eval, by rw [← Array.toList_map, ← Array.toList_map], RL.map he _, RL.map he _⟩
    · exact absurd h (by simp)
  case slice t x lo hi mx =>
    split at h
    · unfold qnone at h
      (repeat' split at h) <;> exact absurd h (by simp)
    · have hx := he x
      split at h
      · rename_i hd
        split at h
        · rename_i s hX
          split at h
          · rename_i l hl
            split at h
            · rename_i hh hhh
              simp only [QR.val.injEq] at h; obtain ⟨rfl, rfl⟩ := h
              rw [hX] at hx; simp only [R] at hx
              refine ⟨.string (s.extract l.toNat hh.toNat), ?_, by simp only [R]⟩
              have hb := run_sliceBounds (P := P) (b := false) (cap := s.size) he hl hhh hc.1 hc.2.1 hc.2.2 (Nat.le_refl _) E.w
              simp only [execOp, Instr.sliceAt, Sem.run_bind, run_underlying hd, Result.andThen_ok, Option.map_none]
              simp only [Instr.slice, Sem.run_bind, run_underlying hd, Result.andThen_ok, hx, Option.isSome_none, Bool.false_eq_true, if_false, pure_bind, hb, Sem.run_pure]
            · exact absurd h (by simp)
          · exact absurd h (by simp)
        · exact absurd h (by simp)
      · rename_i el hd
        split at h
        · rename_i sz rows hX
          split at h
          · rename_i l hl
            split at h
            · rename_i hh hhh
              simp only [QR.val.injEq] at h; obtain ⟨rfl, rfl⟩ := h
              rw [hX] at hx; simp only [R] at hx
              obtain ⟨ad, cap, hx, hcap, hml, hrows⟩ := hx
              obtain ⟨⟨hsz0, hsz⟩, h0, h1, h2⟩ := hc
              obtain ⟨i, hi⟩ := info_of_cells (P := P) (t := el) (by omega)
              have hb := run_sliceBounds (P := P) (b := true) (cap := cap) he hl hhh h0 h1 h2 hcap E.w
              refine ⟨.slice (if cap = l.toNat then ad else ad.map (·.add (l.toNat * P.cellsOf el))) (hh.toNat - l.toNat) (cap - l.toNat), ?_, ?_⟩
              · simp only [execOp, Instr.sliceAt, Sem.run_bind, run_underlying hd, Result.andThen_ok, Option.map_none]
                simp only [Instr.slice, Sem.run_bind, run_underlying hd, Result.andThen_ok, hx, hb, Sem.run_pure, run_sizeOf' hi]
              · simp only [R]
                have hlen : ((rows.drop l.toNat).take (hh.toNat - l.toNat)).length = hh.toNat - l.toNat := by simp; omega
                refine ⟨_, _, by rw [hlen], by omega, by omega, ?_⟩
                by_cases hz : hh.toNat - l.toNat = 0
                · left; rw [hz]; simp
                · right
                  rcases hrows with rfl | ⟨g, o, rfl, hO, hg, hun, hr⟩
                  · simp at h2 hz; omega
                  · refine ⟨g, o + l.toNat * sz, ?_, hO, hg, fun r hr => hun r (List.mem_of_mem_drop (List.mem_of_mem_take hr)), RRows.take _ (RRows.drop _ hr (fun r hr => (hun r hr).1))⟩
                    rw [if_neg (by omega), hsz]
                    simp [Addr.add_lit]
            · exact absurd h (by simp)
          · exact absurd h (by simp)
        · exact absurd h (by simp)
      · rename_i n el hd
        split at h
        · split at h
          · rename_i row off hX
            simp only [QR.val.injEq] at h; obtain ⟨rfl, rfl⟩ := h
            rw [hX] at hx; simp only [R] at hx
            obtain ⟨g, o, hx, hO, hg, ht, hr⟩ := hx
            obtain ⟨hsz0, hin, hml⟩ := hc
            obtain ⟨i, hi⟩ := info_of_cells (P := P) (t := el) (by omega)
            have hb := run_sliceBounds (P := P) (b := false) (len := n) (cap := n) he (lo := none) (hi := none) (l := 0) (h := n) rfl rfl (by omega) (by omega) (by omega) (Nat.le_refl _) E.w
            refine ⟨.slice (some ⟨g, o + off, none⟩) n n, ?_, ?_⟩
            · simp only [Option.map_none] at hb
              simp only [execOp, Instr.sliceAt, Sem.run_bind, run_underlying hd, Result.andThen_ok, Option.map_none]
              simp [Instr.sureAddr, Sem.run_bind, hx, hb, Sem.run_pure, run_sizeOf' hi, Addr.add_lit]
            · have hl : (row.drop off).length = row.length - off := by simp
              have hcl := chunkV_length (P.cellsOf el) n (row.drop off)
              simp only [R]
              refine ⟨_, _, by rw [hcl], by omega, by omega, ?_⟩
              by_cases hz : n = 0
              · left; subst hz; rfl
              · right
                refine ⟨g, o + off, rfl, hO, hg, ?_, RRow.chunk (P.cellsOf el) n (by omega) (RRow.drop off hr)⟩
                intro r hr
                obtain ⟨h1, h2⟩ := chunkV_mem (P.cellsOf el) n (by omega) hr
                exact ⟨h1, fun c hc => ht c (List.mem_of_mem_drop (h2 c hc))⟩
          · exact absurd h (by simp)
        · split at h
          · rename_i row off hX
            split at h
            · rename_i l hl
              split at h
              · rename_i hh hhh
                simp only [QR.val.injEq] at h; obtain ⟨rfl, rfl⟩ := h
                rw [hX] at hx; simp only [R] at hx
                obtain ⟨g, o, hx, hO, hg, ht, hr⟩ := hx
                obtain ⟨⟨hsz0, hin, hml⟩, h0, h1, h2⟩ := hc
                obtain ⟨i, hi⟩ := info_of_cells (P := P) (t := el) (by omega)
                have hb := run_sliceBounds (P := P) (b := false) (len := n) (cap := n) he hl hhh h0 h1 h2 (Nat.le_refl _) E.w
                refine ⟨.slice (if n = l.toNat then some ⟨g, o + off, none⟩ else some ⟨g, o + off + l.toNat * P.cellsOf el, none⟩) (hh.toNat - l.toNat) (n - l.toNat), ?_, ?_⟩
                · simp only [execOp, Instr.sliceAt, Sem.run_bind, run_underlying hd, Result.andThen_ok, Option.map_none]
                  simp [Instr.sureAddr, Sem.run_bind, hx, hb, Sem.run_pure, run_sizeOf' hi, Addr.add_lit]
                  split <;> rfl
                · have hcl := chunkV_length (P.cellsOf el) n (row.drop off)
                  have hlr : (row.drop off).length = row.length - off := by simp
                  have hlen : (((chunkV (P.cellsOf el) n (row.drop off)).drop l.toNat).take (hh.toNat - l.toNat)).length = hh.toNat - l.toNat := by simp [hcl]; omega
                  simp only [R]
                  refine ⟨_, _, by rw [hlen], by omega, by omega, ?_⟩
                  by_cases hz : hh.toNat - l.toNat = 0
                  · left; rw [hz]; simp
                  · right
                    have hm : ∀ r ∈ chunkV (P.cellsOf el) n (row.drop off), r.length = P.cellsOf el ∧ ∀ c ∈ r, c.tree = true := by
                      intro r hr
                      obtain ⟨k1, k2⟩ := chunkV_mem (P.cellsOf el) n (by omega) hr
                      exact ⟨k1, fun c hc => ht c (List.mem_of_mem_drop (k2 c hc))⟩
                    refine ⟨g, o + off + l.toNat * P.cellsOf el, by rw [if_neg (by omega)], hO, hg, fun r hr => hm r (List.mem_of_mem_drop (List.mem_of_mem_take hr)), RRows.take _ (RRows.drop _ (RRow.chunk (P.cellsOf el) n (by omega) (RRow.drop off hr)) (fun r hr => (hm r hr).1))⟩
              · exact absurd h (by simp)
            · exact absurd h (by simp)
          · exact absurd h (by simp)
      · exact absurd h (by simp)
  case fieldAddr s x f =>
    split at h
    · rename_i fs hd
      split at h
      · rename_i fd hfd
        split at h
        · exact absurd h (by simp)
        · rename_i hz
          obtain ⟨i, hi⟩ := info_of_cells (P := P) (t := fd.type) (by omega)
          have hx := he x
          have key : ∀ g off, a.eval x = .pointer (some ⟨g, off, none⟩) → (execOp a.eval { dst := dst, op := .fieldAddr s x f, type := type, pos := pos, after := after, guard := guard }).run P E.w = .ok (.value (.pointer (some ⟨g, off + fd.offset, none⟩))) E.w := by
            intro g off hv
            simp only [execOp, Instr.fieldAt, Sem.run_bind, run_underlying hd, Result.andThen_ok, hfd, hv, Instr.sureAddr, Sem.run_pure, fieldPlace, run_sizeOf' hi, Sem.run_ite, hz, if_false, Addr.add_lit]
          split at h
          · rename_i b off hX
            simp only [QR.val.injEq] at h; obtain ⟨rfl, rfl⟩ := h
            rw [hX] at hx; simp only [R] at hx
            obtain ⟨hb, g, hg, hv⟩ := hx
            exact ⟨_, key g off hv, by simp only [R]; exact ⟨hb, g, hg, rfl⟩⟩
          · rename_i b sz j off hX
            simp only [QR.val.injEq] at h; obtain ⟨rfl, rfl⟩ := h
            rw [hX] at hx; simp only [R] at hx
            obtain ⟨hb, g, n, cap, hg, hv⟩ := hx
            exact ⟨_, key g _ hv, by simp only [R]; exact ⟨hb, g, n, cap, hg, by rw [Nat.add_assoc]⟩⟩
          · rename_i r off hX
            simp only [QR.val.injEq] at h; obtain ⟨rfl, rfl⟩ := h
            rw [hX] at hx; simp only [R] at hx
            obtain ⟨g, o, hv, hO, hg, ht, hr⟩ := hx
            exact ⟨_, key g _ hv, by simp only [R]; exact ⟨g, o, by rw [Nat.add_assoc], hO, hg, ht, hr⟩⟩
          · exact absurd h (by simp)
      · exact absurd h (by simp)
    · exact absurd h (by simp)
  case field t x f =>
    split at h
    · rename_i fs hd
      split at h
      · rename_i fd hfd
        split at h
        · rename_i cs hX
          split at h
          · rename_i d hdd
            have hx := he x
            rw [hX] at hx; simp only [R] at hx
            obtain ⟨vs, hv, hR⟩ := hx
            obtain ⟨u, hu, hRu⟩ := run_part' hdd hR h hc
            refine ⟨u, ?_, hRu⟩
            simp only [execOp, Instr.field, Sem.run_bind, run_underlying hd, Result.andThen_ok, hfd, hv, asAgg, Sem.run_pure, hu]
          · exact absurd h (by simp)
        · exact absurd h (by simp)
      · exact absurd h (by simp)
    · exact absurd h (by simp)
  case indexAddr t x i =>
    split at h
    · rename_i k n hN
      have hn := he i
      rw [hN] at hn; simp only [R] at hn
      have hx := he x
      split at h
      · rename_i el hd
        split at h
        · rename_i sz rows hX
          simp only [QR.val.injEq] at h; obtain ⟨rfl, rfl⟩ := h
          obtain ⟨⟨hz, hsz⟩, h0, h1⟩ := hc
          obtain ⟨inf, hi⟩ := info_of_cells (P := P) (t := el) (by omega)
          rw [hX] at hx; simp only [R] at hx
          obtain ⟨ad, cap, hx, hcap, hml, hrows⟩ := hx
          rcases hrows with rfl | ⟨g, o, rfl, hO, hg, hun, hr⟩
          · simp at h1; omega
          · refine ⟨.pointer (some ⟨g, o + n.toNat * sz, none⟩), ?_, ?_⟩
            · have hin : 0 ≤ n ∧ n < (rows.length : Int) := ⟨h0, h1⟩
              simp only [execOp, Instr.indexAt, hn, asIntOf, Sem.run_bind, Sem.run_pure, Result.andThen_ok, run_underlying hd, hx, Sem.run_ite, hin, and_self, if_true, run_sizeOf' hi, Addr.add_lit, hsz]
            · simp only [R]
              exact ⟨g, o + n.toNat * sz, rfl, hO, hg, fun c hc => (hun _ (getD_mem (by omega))).2 c hc, RRows.row hr (fun r hr => (hun r hr).1) n.toNat (by omega)⟩
        · rename_i b hX
          have key : ∀ (sz : Nat) (ty : TypeId) (rows : List (List V)), BRel F E (E.σ b) (.slo sz ty rows) → QR.val ((0 < sz ∧ sz = P.cellsOf el) ∧ 0 ≤ n ∧ n < rows.length) (.eptr b sz n.toNat 0) = .val c v →
              ∃ u, (execOp a.eval { dst := dst, op := .indexAddr t x i, type := type, pos := pos, after := after, guard := guard }).run P E.w = .ok (.value u) E.w ∧ R E v u := by
            intro sz ty rows hB h
            simp only [QR.val.injEq] at h; obtain ⟨rfl, rfl⟩ := h
            obtain ⟨⟨hz, hsz⟩, h0, h1⟩ := hc
            obtain ⟨inf, hi⟩ := info_of_cells (P := P) (t := el) (by omega)
            rw [hX] at hx; simp only [R] at hx
            obtain ⟨hb, hx, _⟩ := hx
            simp only [BRel] at hB
            obtain ⟨vs, hown, hR, _⟩ := hB.resolve_right (fun h => by rw [h.1] at h1; simp at h1; omega)
            rcases hown.2 with ⟨_, hn0⟩ | ⟨g, cap, cur, hσ, _, hh, hcap, hml, hcs, htk⟩
            · omega
            · refine ⟨.pointer (some ⟨g, n.toNat * sz, none⟩), ?_, ?_⟩
              · have hin : 0 ≤ n ∧ n < (rows.length : Int) := ⟨h0, h1⟩
                simp only [execOp, Instr.indexAt, hn, asIntOf, Sem.run_bind, Sem.run_pure, Result.andThen_ok, run_underlying hd, hx, hσ, Sem.run_ite, hin, and_self, if_true, run_sizeOf' hi, Addr.add_lit, hsz, Nat.zero_add]
              · simp only [R]
                exact ⟨hb, g, _, cap, hσ, rfl⟩
          split at h
          · rename_i sz ty rows hbk
            exact key sz ty rows (H.blk b _ hbk).2.toSlo h
          · rename_i sz ty rows hbk
            exact key sz ty rows (H.blk b _ hbk).2 h
          · exact absurd h (by simp)
        · exact absurd h (by simp)
      · rename_i len el hd
        have key : ∀ g off, a.eval x = .pointer (some ⟨g, off, none⟩) → 0 < P.cellsOf el → 0 ≤ n → n < (len : Int) →
            (execOp a.eval { dst := dst, op := .indexAddr t x i, type := type, pos := pos, after := after, guard := guard }).run P E.w = .ok (.value (.pointer (some ⟨g, off + n.toNat * P.cellsOf el, none⟩))) E.w := by
          intro g off hv hz h0 h1
          obtain ⟨inf, hi⟩ := info_of_cells (P := P) (t := el) hz
          have hin : 0 ≤ n ∧ n < (len : Int) := ⟨h0, h1⟩
          simp only [execOp, Instr.indexAt, hn, asIntOf, Sem.run_bind, Sem.run_pure, Result.andThen_ok, run_underlying hd, hv, Instr.sureAddr, Sem.run_ite, hin, and_self, if_true, run_sizeOf' hi, Addr.add_lit]
        split at h
        · rename_i b off hX
          simp only [QR.val.injEq] at h; obtain ⟨rfl, rfl⟩ := h
          rw [hX] at hx; simp only [R] at hx
          obtain ⟨hb, g, hg, hv⟩ := hx
          exact ⟨_, key g off hv hc.1 hc.2.1 hc.2.2, by simp only [R]; exact ⟨hb, g, hg, rfl⟩⟩
        · rename_i r off hX
          simp only [QR.val.injEq] at h; obtain ⟨rfl, rfl⟩ := h
          rw [hX] at hx; simp only [R] at hx
          obtain ⟨g, o, hv, hO, hg, ht, hr⟩ := hx
          exact ⟨_, key g _ hv hc.1 hc.2.1 hc.2.2, by simp only [R]; exact ⟨g, o, by rw [Nat.add_assoc], hO, hg, ht, hr⟩⟩
        · exact absurd h (by simp)
      · exact absurd h (by simp)
    · exact absurd h (by simp)
  case index t x i =>
    split at h
    · rename_i k n hN
      have hn := he i
      rw [hN] at hn; simp only [R] at hn
      have hx := he x
      split at h
      · rename_i hd
        split at h
        · rename_i s hX
          simp only [QR.val.injEq] at h; obtain ⟨rfl, rfl⟩ := h
          rw [hX] at hx; simp only [R] at hx
          have hlt : n.toNat < s.size := by omega
          have hs : s[n.toNat]? = some s[n.toNat] := by simp [hlt]
          refine ⟨.int .u8 s[n.toNat].toNat, ?_, by simp only [R, sat, hs, Option.getD_some]⟩
          simp only [execOp, Instr.index, hn, asIntOf, Sem.run_bind, Sem.run_pure, Result.andThen_ok, run_underlying hd, hx, hc.1, if_true, hs]
        · exact absurd h (by simp)
      · rename_i len el hd
        split at h
        · rename_i cs hX
          split at h
          · rename_i d hdd
            rw [hX] at hx; simp only [R] at hx
            obtain ⟨vs, hv, hR⟩ := hx
            have hcc : 0 ≤ n ∧ n < len := loadV_cond h hc
            obtain ⟨u, hu, hRu⟩ := run_part' hdd hR h hc
            obtain ⟨inf, hinf⟩ := info_of_underlying hdd
            refine ⟨u, ?_, hRu⟩
            simp only [execOp, Instr.index, hn, asIntOf, Sem.run_bind, Sem.run_pure, Result.andThen_ok, run_underlying hd, hv, hcc.1, hcc.2, and_self, if_true, run_sizeOf' hinf, hu]
          · exact absurd h (by simp)
        · exact absurd h (by simp)
      · exact absurd h (by simp)
    · exact absurd h (by simp)
  case extract x i =>
    split at h
    · rename_i vs hX
      split at h
      · rename_i v' hv'
        simp only [QR.val.injEq] at h; obtain ⟨rfl, rfl⟩ := h
        have hx := he x
        rw [hX] at hx; simp only [R] at hx
        obtain ⟨us, hu, hR⟩ := hx
        obtain ⟨u, hu2, hRu⟩ := hR.get hv'
        refine ⟨u, ?_, hRu⟩
        simp [execOp, Instr.extract, hu, hu2]
      · exact absurd h (by simp)
    · exact absurd h (by simp)
  case build t parts =>
    split at h
    · rename_i pl hpl
      split at h
      · rename_i z hz
        split at h
        · rename_i cs hcs
          simp only [QR.val.injEq] at h; obtain ⟨rfl, rfl⟩ := h
          obtain ⟨inf, zv, hi, hzv, rfl⟩ := zcells_sound hz
          obtain ⟨arr', hf, hR⟩ := fill_sound (E := E) he hcs (arr := zv.cells) (RL_cvs _)
          have hf' : Instr.fill pl.2 zv.cells (parts.map fun p => (p.1, a.eval p.2)).toList = some arr' := by rw [Array.toList_map]; exact hf
          refine ⟨.agg arr', ?_, by simp only [R]; exact ⟨arr'.toList, by simp, hR⟩⟩
          have hzr : (zeroValue t).run P E.w = .ok zv E.w := by simp [zeroValue, typeInfo, hi, hzv]
          unfold placesOf at hpl
          split at hpl
          · rename_i fs hd
            simp only [Option.some.injEq] at hpl
            subst hpl
            have hpls := run_places (P := P) (w := E.w) fs.toList hc
            simp only [execOp, Instr.build, Sem.run_bind, hzr, Result.andThen_ok, run_underlying hd]
            rw [Array.mapM_eq_mapM_toList]
            simp only [Sem.run_bind, Sem.run_map, hpls, Result.andThen_ok]
            have e1 : (fun (i : Nat) => ((List.map (fun (f : Field) => (f.offset, P.cellsOf f.type)) fs.toList).toArray)[i]?) = fun (i : Nat) => (fs[i]?).map fun (f : Field) => (f.offset, P.cellsOf f.type) := by
              funext i; simp
            rw [e1, hf']
            rfl
          · rename_i el hd
            simp only [Option.some.injEq] at hpl
            subst hpl
            obtain ⟨ie, hie⟩ := info_of_cells (P := P) (t := el) hc
            simp only [execOp, Instr.build, Sem.run_bind, hzr, Result.andThen_ok, run_underlying hd, run_sizeOf' hie]
            rw [hf']
            rfl
          · exact absurd hpl (by simp)
        · exact absurd h (by simp)
      · exact absurd h (by simp)
    · exact absurd h (by simp)
  case buildSlice t n parts =>
    unfold slNew at h
    (repeat' split at h) <;> exact absurd h (by simp)
  case makeMap t r => split at h <;> exact absurd h (by simp)
  case makeSlice t l c0 =>
    unfold qmake at h
    (repeat' split at h) <;> exact absurd h (by simp)
  case lookup t m k ok =>
    obtain ⟨u, hu, hR⟩ := qlook_val H (he m) (he k) h hc
    refine ⟨u, ?_, hR⟩
    simp only [execOp]
    rw [ok_bind hu]
    rfl
  case call cl =>
    obtain ⟨callee, args, argTypes⟩ := cl
    simp only at h
    split at h
    · split at h
      · rename_i x hargs
        split at h
        · rename_i t htys
          have ha : args = #[x] := by rw [← Array.toArray_toList (xs := args), hargs]
          have ht : argTypes = #[t] := by rw [← Array.toArray_toList (xs := argTypes), htys]
          subst ha ht
          have hx := he x
          have red : ∀ u, (Builtin.len_ #[t] type #[a.eval x]).run P E.w = .ok u E.w →
              (execOp a.eval { dst := dst, op := .call { callee := .builtin .len, args := #[x], argTypes := #[t] }, type := type, pos := pos, after := after, guard := guard }).run P E.w = .ok (.value u) E.w := by
            intro u hu
            simp only [execOp, resolve, pure_bind, invoke, builtin, List.map_toArray, List.map_cons, List.map_nil]
            rw [ok_bind hu]
            rfl
          split at h
          · rename_i hd
            split at h
            · rename_i s hX
              simp only [QR.val.injEq] at h; obtain ⟨rfl, rfl⟩ := h
              rw [hX] at hx; simp only [R] at hx
              exact ⟨_, red _ (by simp [Builtin.len_, run_underlying hd, hx]; rfl), by simp only [R, goInt]⟩
            · exact absurd h (by simp)
          · rename_i el hd
            split at h
            · rename_i sz rows hX
              simp only [QR.val.injEq] at h; obtain ⟨rfl, rfl⟩ := h
              rw [hX] at hx; simp only [R] at hx
              obtain ⟨ad, cap, hx, _⟩ := hx
              exact ⟨_, red _ (by simp [Builtin.len_, run_underlying hd, hx]; rfl), by simp only [R, goInt]⟩
            · rename_i hX
              simp only [QR.val.injEq] at h; obtain ⟨rfl, rfl⟩ := h
              rw [hX] at hx; simp only [R] at hx
              exact ⟨_, red _ (by simp [Builtin.len_, run_underlying hd, hx]; rfl), by simp [R, goInt]⟩
            · rename_i b hX
              have key : ∀ (sz : Nat) (ty : TypeId) (rows : List (List V)), BRel F E (E.σ b) (.slo sz ty rows) → QR.val True (.int .i64 rows.length) = .val c v →
                  ∃ u, (execOp a.eval { dst := dst, op := .call { callee := .builtin .len, args := #[x], argTypes := #[t] }, type := type, pos := pos, after := after, guard := guard }).run P E.w = .ok (.value u) E.w ∧ R E v u := by
                intro sz ty rows hB h
                simp only [QR.val.injEq] at h; obtain ⟨rfl, rfl⟩ := h
                rw [hX] at hx; simp only [R] at hx
                obtain ⟨hb, hx, _⟩ := hx
                have : ∃ ad cap, E.σ b = .slice ad rows.length cap := by
                  simp only [BRel] at hB
                  rcases hB with ⟨vs, hown, _⟩ | ⟨h0, _, ad, hσ⟩
                  case inr => exact ⟨ad, 0, by rw [hσ, h0]; rfl⟩
                  rcases hown.2 with ⟨h1, h2⟩ | ⟨g, cap, cur, hσ, _⟩
                  · exact ⟨none, 0, by rw [h1, h2]⟩
                  · exact ⟨_, cap, hσ⟩
                obtain ⟨ad, cap, hσ⟩ := this
                exact ⟨_, red _ (by simp [Builtin.len_, run_underlying hd, hx, hσ]; rfl), by simp only [R, goInt]⟩
              split at h
              · rename_i sz ty rows hbk
                exact key sz ty rows (H.blk b _ hbk).2.toSlo h
              · rename_i sz ty rows hbk
                exact key sz ty rows (H.blk b _ hbk).2 h
              · exact absurd h (by simp)
            · exact absurd h (by simp)
          · rename_i n el hd
            simp only [QR.val.injEq] at h; obtain ⟨rfl, rfl⟩ := h
            exact ⟨_, red _ (by simp [Builtin.len_, run_underlying hd]; rfl), by simp only [R, goInt]⟩
          · exact absurd h (by simp)
        · exact absurd h (by simp)
      · exact absurd h (by simp)
    · split at h
      · rename_i x l hargs
        obtain ⟨u, hu, hRu⟩ := mm_sound (E := E) true (he x) (RL.map he l) h
        have ha : args = (x :: l).toArray := by rw [← Array.toArray_toList (xs := args), hargs]
        subst ha
        refine ⟨u, ?_, hRu⟩
        simp only [execOp, resolve, pure_bind, invoke, builtin, List.map_toArray, List.map_cons]
        have hu' : (Builtin.max_ argTypes type ((a.eval x :: l.map a.eval).toArray)).run P E.w = .ok u E.w := by simpa [Builtin.max_] using hu
        rw [ok_bind hu']
        rfl
      · exact absurd h (by simp)
    · split at h
      · rename_i x l hargs
        obtain ⟨u, hu, hRu⟩ := mm_sound (E := E) false (he x) (RL.map he l) h
        have ha : args = (x :: l).toArray := by rw [← Array.toArray_toList (xs := args), hargs]
        subst ha
        refine ⟨u, ?_, hRu⟩
        simp only [execOp, resolve, pure_bind, invoke, builtin, List.map_toArray, List.map_cons]
        have hu' : (Builtin.min_ argTypes type ((a.eval x :: l.map a.eval).toArray)).run P E.w = .ok u E.w := by simpa [Builtin.min_] using hu
        rw [ok_bind hu']
        rfl
      · exact absurd h (by simp)
    · exact absurd h (by simp)
end
end Go.Proofs.YtbnjijffkjcmcaaDoor.AL
namespace Go.Proofs.YtbnjijffkjcmcaaDoor.AL
open Go

/-! ### New blocks -/
def upd {α : Type} (f : Nat → α) (n : Nat) (x : α) : Nat → α := fun m => if m = n then x else f m
theorem upd_same {α : Type} (f : Nat → α) (n : Nat) (x : α) : upd f n x n = x := by simp [upd]
theorem upd_other {α : Type} (f : Nat → α) {n m : Nat} (x : α) (h : m ≠ n) : upd f n x m = f m := by simp [upd, h]

def newV (nm : Nat) : Blk → V
  | .sl _ _ _ => .own nm
  | .slo _ _ _ => .own nm
  | .map _ _ => .mp nm
  | _ => .ptr nm 0

structure Grows (F : Nat → Prop) (E E' : Env) : Prop where
  le : E.le E'
  Oo : ∀ g, g < E.w.heap.size → E'.O g → E.O g
  Oz : ∀ g, E'.O g → E.O g ∨ g < E'.w.heap.size
  O : ∀ g, E.O g → E'.O g
  blk : ∀ g, g < E.w.heap.size → E'.w.heap[g]? = E.w.heap[g]?
  ev : Ev F E.w E'.w
theorem Grows.refl (F : Nat → Prop) (E : Env) : Grows F E E := ⟨⟨fun _ h => h, fun _ _ => rfl, Nat.le_refl _, fun _ _ h => ⟨rfl, h⟩⟩, fun _ _ h => h, fun _ h => .inl h, fun _ h => h, fun _ _ => rfl, Ev.refl _ _⟩
theorem Env.le.trans {E E1 E2 : Env} (h : E.le E1) (k : E1.le E2) : E.le E2 :=
  ⟨fun b hb => k.D b (h.D b hb), fun b hb => (k.σ b (h.D b hb)).trans (h.σ b hb), Nat.le_trans h.size k.size, fun g hg hO => by
    obtain ⟨e1, o1⟩ := h.blk g hg hO
    obtain ⟨e2, o2⟩ := k.blk g (Nat.lt_of_lt_of_le hg h.size) o1
    exact ⟨e2.trans e1, o2⟩⟩

theorem BRel.grow {F : Nat → Prop} {E E' : Env} (h : Grows F E E') {v : Value} {x : Blk} (hx : BRel F E v x) : BRel F E' v x := by
  cases x with
  | box ty cells =>
    simp only [BRel] at hx ⊢
    obtain ⟨g, arr, rfl, hh, hR, h1, hF, hO⟩ := hx
    exact ⟨g, arr, rfl, (h.blk g (Array.getElem?_eq_some_iff.1 hh).1).trans hh, RL.mono h.le _ _ hR, h1, hF, h.O g hO⟩
  | sl sz ty rows =>
    simp only [BRel] at hx ⊢
    rcases hx with ⟨vs, hown, hR, h1, hsz, hun, hF⟩ | hx
    · exact .inl ⟨vs, hown.kept (row := none) ⟨h.ev.os, h.ev.tape, h.ev.output, h.ev.size, fun k hk _ => h.blk k hk⟩ (by cases v.ownBlock <;> simp), RL.mono h.le _ _ hR, h1, hsz, hun, fun g hg => ⟨(hF g hg).1, h.O g (hF g hg).2⟩⟩
    · exact .inr hx
  | slo sz ty rows =>
    simp only [BRel] at hx ⊢
    rcases hx with ⟨vs, hown, hR, h1, hsz, hun, hF⟩ | hx
    · exact .inl ⟨vs, hown.kept (row := none) ⟨h.ev.os, h.ev.tape, h.ev.output, h.ev.size, fun k hk _ => h.blk k hk⟩ (by cases v.ownBlock <;> simp), RL.mono h.le _ _ hR, h1, hsz, hun, fun g hg => ⟨(hF g hg).1, h.O g (hF g hg).2⟩⟩
    · exact .inr hx
  | obj o =>
    simp only [BRel] at hx ⊢
    obtain ⟨g, rfl, hh, hc, hF, hO⟩ := hx
    exact ⟨g, rfl, (h.blk g (Array.getElem?_eq_some_iff.1 hh).1).trans hh, hc, hF, h.O g hO⟩
  | loop st pend fn tm nt ps assign body d =>
    simp only [BRel] at hx ⊢
    obtain ⟨g, r, rfl, hh, h1, h2, h3, h4, h5, h6, h7, h8, ⟨h9, h10⟩, hF, hO⟩ := hx
    exact ⟨g, r, rfl, (h.blk g (Array.getElem?_eq_some_iff.1 hh).1).trans hh, h1, h2, h3, h4, fun t => R.mono h.le _ _ (h5 t), h6, h7, h8, ⟨h.le.D d h9, by rw [h.le.σ d h9]; exact h10⟩, hF, h.O g hO⟩
  | map ks vs =>
    simp only [BRel] at hx ⊢
    obtain ⟨g, arr, clk, rfl, hh, h1, h2, hF, hO⟩ := hx
    exact ⟨g, arr, clk, rfl, (h.blk g (Array.getElem?_eq_some_iff.1 hh).1).trans hh, RL.mono h.le _ _ h1, RL.mono h.le _ _ h2, hF, h.O g hO⟩
theorem BRel.lt {F : Nat → Prop} {E : Env} {v : Value} {x : Blk} (hx : BRel F E v x) {g : Nat} (hg : blkOf v = some g) : g < E.w.heap.size := by
  cases x with
  | box ty cells =>
    obtain ⟨g', arr, rfl, hh, _⟩ := hx
    simp only [blkOf, Option.some.injEq] at hg
    subst hg
    exact (Array.getElem?_eq_some_iff.1 hh).1
  | sl sz ty rows =>
    rcases hx with ⟨vs, hown, _⟩ | ⟨_, _, ad, rfl⟩
    · rcases hown.2 with ⟨rfl, _⟩ | ⟨g', cap, cur, rfl, _, hh, _⟩
      · simp [blkOf] at hg
      · simp only [blkOf] at hg
        split at hg
        · cases hg
        · simp only [Option.some.injEq] at hg
          subst hg
          exact (Array.getElem?_eq_some_iff.1 hh).1
    · cases ad <;> simp [blkOf] at hg
  | slo sz ty rows =>
    rcases hx with ⟨vs, hown, _⟩ | ⟨_, _, ad, rfl⟩
    · rcases hown.2 with ⟨rfl, _⟩ | ⟨g', cap, cur, rfl, _, hh, _⟩
      · simp [blkOf] at hg
      · simp only [blkOf] at hg
        split at hg
        · cases hg
        · simp only [Option.some.injEq] at hg
          subst hg
          exact (Array.getElem?_eq_some_iff.1 hh).1
    · cases ad <;> simp [blkOf] at hg
  | obj o =>
    obtain ⟨g', rfl, hh, _⟩ := hx
    simp only [blkOf, Option.some.injEq] at hg
    subst hg
    exact (Array.getElem?_eq_some_iff.1 hh).1
  | loop st pend fn tm nt ps assign body d =>
    obtain ⟨g', r, rfl, hh, _⟩ := hx
    simp only [blkOf, Option.some.injEq] at hg
    subst hg
    exact (Array.getElem?_eq_some_iff.1 hh).1
  | map ks vs =>
    obtain ⟨g', arr, clk, rfl, hh, _⟩ := hx
    simp only [blkOf, Option.some.injEq] at hg
    subst hg
    exact (Array.getElem?_eq_some_iff.1 hh).1
theorem BRel.own {F : Nat → Prop} {E : Env} {v : Value} {x : Blk} (hx : BRel F E v x) {g : Nat} (hg : blkOf v = some g) : ¬ F g ∧ E.O g := by
  cases x with
  | box ty cells =>
    obtain ⟨g', arr, rfl, hh, _, _, h1, h2⟩ := hx
    simp only [blkOf, Option.some.injEq] at hg
    subst hg
    exact ⟨h1, h2⟩
  | sl sz ty rows =>
    rcases hx with ⟨vs, _, _, _, _, _, h⟩ | ⟨_, _, ad, rfl⟩
    · exact h g hg
    · cases ad <;> simp [blkOf] at hg
  | slo sz ty rows =>
    rcases hx with ⟨vs, _, _, _, _, _, h⟩ | ⟨_, _, ad, rfl⟩
    · exact h g hg
    · cases ad <;> simp [blkOf] at hg
  | obj o =>
    obtain ⟨g', rfl, hh, _, h1, h2⟩ := hx
    simp only [blkOf, Option.some.injEq] at hg
    subst hg
    exact ⟨h1, h2⟩
  | loop st pend fn tm nt ps assign body d =>
    obtain ⟨g', r, rfl, hh, _, _, _, _, _, _, _, _, _, h1, h2⟩ := hx
    simp only [blkOf, Option.some.injEq] at hg
    subst hg
    exact ⟨h1, h2⟩
  | map ks vs =>
    obtain ⟨g', arr, clk, rfl, hh, _, _, h1, h2⟩ := hx
    simp only [blkOf, Option.some.injEq] at hg
    subst hg
    exact ⟨h1, h2⟩

/-- A heap with a new block beside what it held. -/
theorem HRel.add {F : Nat → Prop} {E E' : Env} {hp : Nat → Option Blk} (H : HRel F E hp) (hG : Grows F E E') {nm : Nat} {u : Value} {x : Blk} (hnm : ¬ E.D nm) (hD : E'.D nm) (hσ : E'.σ nm = u)
    (hb : BRel F E' u x) (hfr : ∀ g, blkOf u = some g → E.w.heap.size ≤ g) : HRel F E' (upd hp nm (some x)) := by
  refine ⟨fun b y hy => ?_, fun b b' y y' g hy hy' hg hg' => ?_⟩
  · by_cases hbn : b = nm
    · subst hbn
      simp only [upd_same, Option.some.injEq] at hy
      subst hy
      exact ⟨hD, by rw [hσ]; exact hb⟩
    · rw [upd_other _ _ hbn] at hy
      obtain ⟨h1, h2⟩ := H.blk b y hy
      exact ⟨hG.le.D b h1, by rw [hG.le.σ b h1]; exact h2.grow hG⟩
  · by_cases hbn : b = nm
    · by_cases hbn' : b' = nm
      · rw [hbn, hbn']
      · exfalso
        rw [upd_other _ _ hbn'] at hy'
        obtain ⟨h1, h2⟩ := H.blk b' y' hy'
        rw [hG.le.σ b' h1] at hg'
        have := h2.lt hg'
        rw [hbn, hσ] at hg
        have := hfr g hg
        omega
    · rw [upd_other _ _ hbn] at hy
      obtain ⟨h1, h2⟩ := H.blk b y hy
      rw [hG.le.σ b h1] at hg
      by_cases hbn' : b' = nm
      · exfalso
        have := h2.lt hg
        rw [hbn', hσ] at hg'
        have := hfr g hg'
        omega
      · rw [upd_other _ _ hbn'] at hy'
        obtain ⟨h1', h2'⟩ := H.blk b' y' hy'
        rw [hG.le.σ b' h1'] at hg'
        exact H.sep b b' y y' g hy hy' hg hg'

/-- The environment with one more block, named nm, whose header is u. -/
def Env.alloc (E : Env) (o : Obj) (nm : Nat) (u : Value) : Env :=
  { w := E.w.alloc o, O := fun g => E.O g ∨ g = E.w.heap.size, σ := upd E.σ nm u, D := fun b => E.D b ∨ b = nm }
theorem Env.alloc_grows {F : Nat → Prop} (E : Env) (o : Obj) (nm : Nat) (u : Value) (hnm : ¬ E.D nm) (hF : ∀ g, F g → g < E.w.heap.size) : Grows F E (E.alloc o nm u) := by
  refine ⟨⟨fun _ h => .inl h, fun b hb => upd_other _ _ (fun e => hnm (e ▸ hb)), by simp [Env.alloc], fun g hg hO => ⟨heap_alloc_old E.w o g hg, fun h => ?_⟩⟩, fun g hg h => h.resolve_right (by omega), fun g h => h.imp id (fun h => by subst h; simp [Env.alloc]), fun _ h => .inl h, fun g hg => heap_alloc_old E.w o g hg,
    ⟨rfl, rfl, rfl, by simp [Env.alloc], fun g hg => heap_alloc_old E.w o g (hF g hg), fun _ => Nat.le_refl _⟩⟩
  rcases h with h | h
  · exact hO h
  · omega

section
variable {P : Program} {E : Env} {F : Nat → Prop} {hp : Nat → Option Blk} {a : Act} {e : Operand → V}

theorem new_box (H : HRel F E hp) (hF : ∀ g, F g → g < E.w.heap.size) {nm : Nat} (hnm : ¬ E.D nm) {t : TypeId} {cells : List V} {arr : Array Value} (hR : RL E cells arr.toList) (h1 : ∀ u ∈ arr.toList, u.oneCell' = true) :
    ∃ E', E'.w = E.w.alloc (.cells arr t) ∧ Grows F E E' ∧ R E' (.ptr nm 0) (.pointer (some ⟨E.w.heap.size, 0, none⟩)) ∧ HRel F E' (upd hp nm (some (.box t cells))) ∧ (∀ b, E'.D b ↔ E.D b ∨ b = nm) := by
  refine ⟨E.alloc (.cells arr t) nm (.pointer (some ⟨E.w.heap.size, 0, none⟩)), rfl, E.alloc_grows _ nm _ hnm hF, ?_, ?_, fun b => Iff.rfl⟩
  · simp only [R]
    exact ⟨.inr rfl, _, upd_same _ _ _, rfl⟩
  · have hG := E.alloc_grows (F := F) (.cells arr t) nm (.pointer (some ⟨E.w.heap.size, 0, none⟩)) hnm hF
    refine H.add hG hnm (.inr rfl) (upd_same _ _ _) ?_ (fun g hg => ?_)
    · simp only [BRel]
      exact ⟨_, arr, rfl, heap_alloc_new E.w _, RL.mono hG.le _ _ hR, h1, fun h => Nat.lt_irrefl _ (hF _ h), .inr rfl⟩
    · simp only [blkOf, Option.some.injEq] at hg
      omega
theorem new_sl (H : HRel F E hp) (hF : ∀ g, F g → g < E.w.heap.size) {nm : Nat} (hnm : ¬ E.D nm) {t : TypeId} {sz : Nat} {rows : List (List V)} {arr : Array Value} (hR : RL E rows.flatten arr.toList)
    (h1 : ∀ u ∈ arr.toList, u.oneCell' = true) (hsz : 0 < sz) (hun : ∀ r ∈ rows, r.length = sz ∧ ∀ c ∈ r, c.tree = true) (hml : rows.length ≤ maxLen) :
    ∃ E', E'.w = E.w.alloc (.cells arr t) ∧ Grows F E E' ∧ R E' (.own nm) (.slice (some ⟨E.w.heap.size, 0, none⟩) rows.length rows.length) ∧ HRel F E' (upd hp nm (some (.sl sz t rows))) ∧ (∀ b, E'.D b ↔ E.D b ∨ b = nm) := by
  refine ⟨E.alloc (.cells arr t) nm (.slice (some ⟨E.w.heap.size, 0, none⟩) rows.length rows.length), rfl, E.alloc_grows _ nm _ hnm hF, ?_, ?_, fun b => Iff.rfl⟩
  · simp only [R]
    exact ⟨.inr rfl, (upd_same _ _ _).symm, _, _, _, rfl⟩
  · have hG := E.alloc_grows (F := F) (.cells arr t) nm (.slice (some ⟨E.w.heap.size, 0, none⟩) rows.length rows.length) hnm hF
    have hlen : arr.toList.length = rows.length * sz := by rw [hR.length, length_flatten_uni (fun r hr => (hun r hr).1)]
    refine H.add hG hnm (.inr rfl) (upd_same _ _ _) ?_ (fun g hg => ?_)
    · simp only [BRel]
      refine .inl ⟨arr.toList, ⟨hlen, .inr ⟨_, rows.length, arr, rfl, Nat.zero_le _, heap_alloc_new E.w _, Nat.le_refl _, hml, by simpa using hlen, ?_⟩⟩, RL.mono hG.le _ _ hR, h1, hsz, hun, fun g hg => ?_⟩
      · rw [← hlen]; exact List.take_length
      · simp only [blkOf] at hg
        split at hg
        · cases hg
        · simp only [Option.some.injEq] at hg
          subst hg
          exact ⟨fun h => Nat.lt_irrefl _ (hF _ h), .inr rfl⟩
    · simp only [blkOf] at hg
      split at hg
      · cases hg
      · simp only [Option.some.injEq] at hg
        omega

theorem new_slo (H : HRel F E hp) (hF : ∀ g, F g → g < E.w.heap.size) {nm : Nat} (hnm : ¬ E.D nm) {t : TypeId} {sz : Nat} {rows : List (List V)} {arr : Array Value} (hR : RL E rows.flatten arr.toList)
    (h1 : ∀ u ∈ arr.toList, u.oneCell' = true) (hsz : 0 < sz) (hun : ∀ r ∈ rows, r.length = sz ∧ ∀ c ∈ r, anyV c) (hml : rows.length ≤ maxLen) :
    ∃ E', E'.w = E.w.alloc (.cells arr t) ∧ Grows F E E' ∧ R E' (.own nm) (.slice (some ⟨E.w.heap.size, 0, none⟩) rows.length rows.length) ∧ HRel F E' (upd hp nm (some (.slo sz t rows))) ∧ (∀ b, E'.D b ↔ E.D b ∨ b = nm) := by
  refine ⟨E.alloc (.cells arr t) nm (.slice (some ⟨E.w.heap.size, 0, none⟩) rows.length rows.length), rfl, E.alloc_grows _ nm _ hnm hF, ?_, ?_, fun b => Iff.rfl⟩
  · simp only [R]
    exact ⟨.inr rfl, (upd_same _ _ _).symm, _, _, _, rfl⟩
  · have hG := E.alloc_grows (F := F) (.cells arr t) nm (.slice (some ⟨E.w.heap.size, 0, none⟩) rows.length rows.length) hnm hF
    have hlen : arr.toList.length = rows.length * sz := by rw [hR.length, length_flatten_uni (fun r hr => (hun r hr).1)]
    refine H.add hG hnm (.inr rfl) (upd_same _ _ _) ?_ (fun g hg => ?_)
    · simp only [BRel]
      refine .inl ⟨arr.toList, ⟨hlen, .inr ⟨_, rows.length, arr, rfl, Nat.zero_le _, heap_alloc_new E.w _, Nat.le_refl _, hml, by simpa using hlen, ?_⟩⟩, RL.mono hG.le _ _ hR, h1, hsz, hun, fun g hg => ?_⟩
      · rw [← hlen]; exact List.take_length
      · simp only [blkOf] at hg
        split at hg
        · cases hg
        · simp only [Option.some.injEq] at hg
          subst hg
          exact ⟨fun h => Nat.lt_irrefl _ (hF _ h), .inr rfl⟩
    · simp only [blkOf] at hg
      split at hg
      · cases hg
      · simp only [Option.some.injEq] at hg
        omega

theorem foldl_set_splice (off : Nat) : ∀ (us vs : List Value), off + us.length ≤ vs.length →
    us.zipIdx.foldl (fun c (p : Value × Nat) => c.set (off + p.2) p.1) vs = vs.take off ++ (us ++ vs.drop (off + us.length)) := by
  suffices H : ∀ (us vs : List Value) (k : Nat), off + k + us.length ≤ vs.length →
      (us.zipIdx k).foldl (fun c (p : Value × Nat) => c.set (off + p.2) p.1) vs = vs.take (off + k) ++ (us ++ vs.drop (off + k + us.length)) by
    intro us vs h; simpa using H us vs 0 (by simpa using h)
  intro us
  induction us with
  | nil => intro vs k h; simp
  | cons u us ih =>
    intro vs k h
    simp only [List.length_cons] at h
    simp only [List.zipIdx_cons, List.foldl_cons]
    rw [ih _ (k + 1) (by simp; omega)]
    have e1 : (vs.set (off + k) u).take (off + (k + 1)) = vs.take (off + k) ++ [u] := by
      rw [← Nat.add_assoc, List.take_succ_eq_append_getElem (by simp; omega), List.take_set_of_le (Nat.le_refl _)]
      simp
    rw [e1, List.drop_set_of_lt (by omega)]
    simp only [List.append_assoc, List.cons_append, List.nil_append, List.length_cons]
    congr 4
    omega
theorem fillRows_sound (he : ∀ x, R E (e x) (a.eval x)) {size : Nat} : ∀ {parts : List (Nat × Operand)} {k : Nat} {pre : List Value} {arr : Array Value} {n : Nat},
    seqParts k (parts.map fun p => (p.1, e p.2)) = true → (∀ r ∈ parts.map (fun p => (e p.2).cells), r.length = size ∧ ∀ c ∈ r, c.one = true) →
    arr.size = (k + parts.length) * size → arr.toList.take (k * size) = pre →
    ∃ arr' post, Instr.fill (fun i => some (i * size, size)) arr (parts.map fun p => (p.1, a.eval p.2)) = some arr' ∧ arr'.toList = pre ++ post ∧ RL E (parts.map fun p => (e p.2).cells).flatten post := by
  intro parts
  induction parts with
  | nil =>
    intro k pre arr n _ _ hsz hpre
    refine ⟨arr, [], rfl, ?_, by simp [RL]⟩
    rw [List.append_nil, ← hpre, List.take_of_length_le (by simp [hsz])]
  | cons p parts ih =>
    intro k pre arr n hs hall hsz hpre
    obtain ⟨i, x⟩ := p
    simp only [List.map_cons, seqParts, Bool.and_eq_true, beq_iff_eq] at hs
    obtain ⟨rfl, hs⟩ := hs
    have hx := hall (e x).cells (by simp)
    have hok : (e x).ok = true := by
      cases hX : e x <;> rw [hX] at hx <;> simp [V.cells, V.ok, V.one] at hx ⊢
    have hcl := (he x).cells hok
    have hlen : (a.eval x).cells.size = size := by
      have := hcl.length
      simpa [hx.1] using this
    simp only [List.length_cons] at hsz
    have hmul : (i + (parts.length + 1)) * size = i * size + size + parts.length * size := by
      simp only [Nat.add_mul, Nat.one_mul]; omega
    simp only [List.map_cons, Instr.fill]
    have hcond : ¬ ((decide ((a.eval x).cells.size ≠ size) || decide (i * size + (a.eval x).cells.size > arr.size)) = true) := by
      simp only [Bool.or_eq_true, decide_eq_true_eq]
      rw [hlen, hsz, hmul]
      omega
    rw [if_neg hcond]
    generalize harr2 : Array.foldl (fun cs (x : Value × Nat) => cs.setIfInBounds (i * size + x.2) x.1) arr (a.eval x).cells.zipIdx = arr2
    have h2 : arr2.toList = (a.eval x).cells.toList.zipIdx.foldl (fun c (p : Value × Nat) => c.set (i * size + p.2) p.1) arr.toList := by
      rw [← harr2, ← Array.foldl_toList, Array.toList_zipIdx, foldl_toList]
    have h3 := foldl_set_splice (i * size) (a.eval x).cells.toList arr.toList (by simp only [Array.length_toList]; rw [hlen, hsz, hmul]; omega)
    rw [← h2] at h3
    simp only [Array.length_toList, hlen] at h3
    have hs2 : arr2.size = (i + 1 + parts.length) * size := by
      have := congrArg List.length h3
      simp only [Array.length_toList, List.length_append, List.length_take, List.length_drop, hlen, hsz, hmul] at this
      rw [this]
      simp only [Nat.add_mul, Nat.one_mul]
      omega
    obtain ⟨arr', post, hf, ht, hR⟩ := ih (k := i + 1) (pre := pre ++ (a.eval x).cells.toList) (arr := arr2) (n := n) hs (fun r hr => hall r (by simp [hr])) hs2 (by
      rw [h3, hpre, ← List.append_assoc, List.take_left']
      rw [List.length_append, ← hpre, List.length_take, Array.length_toList, Array.length_toList, hlen, hsz, hmul, Nat.add_mul, Nat.one_mul]
      omega)
    refine ⟨arr', (a.eval x).cells.toList ++ post, hf, by rw [ht, List.append_assoc], ?_⟩
    simp only [List.flatten_cons]
    exact RL.append hcl hR
end
end Go.Proofs.YtbnjijffkjcmcaaDoor.AL
