import Derived.Test.YtbnjijffkjcmcaaDoorZAL1
/- A logic of abstract values for walking functions: a part of the proof; no conditions. -/
set_option linter.unusedVariables false
set_option linter.unusedSimpArgs false
set_option linter.unusedSectionVars false
namespace Go.Proofs.YtbnjijffkjcmcaaDoor.AL
open Go

section
variable {P : Program} {E : Env} {F : Nat → Prop} {hp : Nat → Option Blk} {a : Act} {e : Operand → V}
theorem ones_all {cs : List V} (h : cs.all V.one = true) : ∀ c ∈ cs, c.one = true := by simpa using h
theorem ok_of_one {x : V} (h : x.cells.all V.one = true) : x.ok = true := by
  cases x <;> simp_all [V.cells, V.one, V.ok]
theorem rep_flatten {zs : Array Value} {s : Nat} (hs : zs.size = s) (h0 : 0 < s) : ∀ N : Nat, ((List.range (N * s)).map fun i => zs[i % zs.size]!) = (List.replicate N zs.toList).flatten
  | 0 => by simp
  | N + 1 => by
    have ih := rep_flatten hs h0 N
    rw [List.replicate_succ', List.flatten_append, ← ih, Nat.add_mul, Nat.one_mul, List.range_add, List.map_append]
    congr 1
    simp only [List.flatten_cons, List.flatten_nil, List.append_nil, List.map_map]
    refine List.ext_getElem (by simp [hs]) fun i h1 h2 => ?_
    have hi : i < s := by simpa using h1
    simp only [List.getElem_map, List.getElem_range, Function.comp]
    have e : (N * s + i) % zs.size = i := by rw [hs, Nat.mul_comm, Nat.mul_add_mod, Nat.mod_eq_of_lt hi]
    rw [e]
    simp [hs, hi]
theorem qf_new {hv : Nat → Option Blk} (H : HRel F E hp) (he : ∀ x, R E (e x) (a.eval x)) (hF : ∀ g, F g → g < E.w.heap.size) {nm : Nat} (hnm : ¬ E.D nm) {o : Oper} {c : Prop} {x : Blk} (h : qf P hv e o.op = .new c x) (hc : c) :
    ∃ u E', (execOp a.eval o).run P E.w = .ok (.value u) E'.w ∧ Grows F E E' ∧ R E' (newV nm x) u ∧ HRel F E' (upd hp nm (some x)) ∧ (∀ b, E'.D b ↔ E.D b ∨ b = nm) := by
  obtain ⟨dst, op, type, pos, after, guard⟩ := o
  simp only at h
  cases op <;> simp only [qf] at h <;> (try (cases h; done))
  case alloc t =>
    split at h
    · rename_i cs hz
      simp only [QR.new.injEq] at h
      obtain ⟨rfl, rfl⟩ := h
      obtain ⟨i, z, hi, hzv, rfl⟩ := zcells_sound hz
      have h1 := RL.ones (RL_cvs (E := E) z.cells.toList) (ones_all hc)
      obtain ⟨E', hw, hG, hR, hH, hD⟩ := new_box (t := t) H hF hnm (RL_cvs z.cells.toList) h1
      refine ⟨_, E', ?_, hG, hR, hH, hD⟩
      rw [hw]
      simp [execOp, Instr.alloc, zeroValue, typeInfo, hi, hzv, newVar, newRow]
    · exact absurd h (by simp)
  case box t y =>
    simp only [QR.new.injEq] at h
    obtain ⟨rfl, rfl⟩ := h
    have hcl := (he y).cells (ok_of_one hc)
    obtain ⟨E', hw, hG, hR, hH, hD⟩ := new_box (t := t) H hF hnm hcl (RL.ones hcl (ones_all hc))
    refine ⟨_, E', ?_, hG, hR, hH, hD⟩
    rw [hw]
    simp [execOp, Instr.box, newVar, newRow]
  case pick => split at h <;> exact absurd h (by simp)
  case load =>
    split at h
    · split at h
      · unfold loadV at h
        split at h
        · exact absurd h (by simp)
        · split at h <;> exact absurd h (by simp)
      · exact absurd h (by simp)
    · exact absurd h (by simp)
  case nilCheck => split at h <;> cases h
  case binOp => 
    unfold qbin ibin sbin nilQ at h
    (repeat' split at h) <;> cases h
  case unOp =>
    unfold qun at h
    (repeat' split at h) <;> cases h
  case convert => (repeat' split at h) <;> first | (cases h; done) | (unfold qbytes at h; split at h <;> cases h)
  case makeInterface => (repeat' split at h) <;> cases h
  case makeFunc => (repeat' split at h) <;> cases h
  case lookup =>
    unfold qlook mlook at h
    (repeat' split at h) <;> cases h
  case makeMap t r =>
    split at h
    · simp only [QR.new.injEq] at h
      obtain ⟨rfl, rfl⟩ := h
      have hG := E.alloc_grows (F := F) (.map #[] 0) nm (.map (some E.w.heap.size)) hnm hF
      refine ⟨.map (some E.w.heap.size), E.alloc (.map #[] 0) nm (.map (some E.w.heap.size)), ?_, hG, ?_, ?_, fun b => Iff.rfl⟩
      · simp [execOp, Instr.makeMap, run_newObj, Env.alloc]
      · simp only [newV, R]
        exact ⟨.inr rfl, (upd_same _ _ _).symm, _, rfl⟩
      · refine H.add hG hnm (.inr rfl) (upd_same _ _ _) ?_ (fun g hg => ?_)
        · simp only [BRel]
          exact ⟨_, #[], 0, rfl, heap_alloc_new E.w _, by simp [RL], by simp [RL], fun h => Nat.lt_irrefl _ (hF _ h), .inr rfl⟩
        · simp only [blkOf, Option.some.injEq] at hg
          omega
    · cases h
  case makeSlice t l c0 =>
    split at h
    · rename_i el hd
      unfold qmake at h
      split at h
      case h_2 => cases h
      rename_i k1 n hn
      split at h
      case h_2 => cases h
      rename_i k2 m hm
      split at h
      case h_2 => cases h
      rename_i z hz
      simp only [QR.new.injEq] at h
      obtain ⟨rfl, rfl⟩ := h
      obtain ⟨rfl, h0, h63, hby, hsz, hzl, hzt⟩ := hc
      obtain ⟨N, rfl⟩ := Int.eq_ofNat_of_zero_le h0
      obtain ⟨inf, hi⟩ := info_of_cells hsz
      obtain ⟨inf', zv, hi', hzv, hze⟩ := zcells_sound hz
      have hli := he l
      have hci := he c0
      rw [hn] at hli
      rw [hm] at hci
      simp only [R] at hli hci
      have hwr : ∀ M : Nat, (M : Int) ≤ 9223372036854775807 → IntKind.i64.wrap (M : Int) = M := fun M hM => by
        show (if (true && decide ((M : Int) % 18446744073709551616 ≥ 9223372036854775808)) = true then (M : Int) % 18446744073709551616 - 18446744073709551616 else (M : Int) % 18446744073709551616) = M
        rw [Int.emod_eq_of_lt (by omega) (by omega), if_neg]
        simp
        omega
      have hw := hwr N h63
      have hbi : inf.bytes = P.bytesOf el := by simp [Program.bytesOf, hi]
      have hby2 : ¬ 281474976710656 < (inf.bytes : Int) * (N : Int) := by
        rw [hbi, Int.mul_comm]
        omega
      have hzs : zv.cells.size = P.cellsOf el := by rw [← hzl, hze]; simp
      obtain ⟨zarr, hza⟩ : ∃ zarr : Array Value, zarr = if N * P.cellsOf el = 0 then #[] else zv.cells := ⟨_, rfl⟩
      have hlist : ((Array.range (N * P.cellsOf el)).map (zarr[· % zarr.size]!)).toList = (List.replicate N zv.cells.toList).flatten := by
        rcases Nat.eq_zero_or_pos N with h | h
        · subst h; simp
        · have : ¬ N * P.cellsOf el = 0 := Nat.ne_of_gt (Nat.mul_pos h hsz)
          rw [if_neg this] at hza
          subst hza
          rw [Array.toList_map, Array.toList_range]
          exact rep_flatten hzs hsz N
      have hR : RL E (List.replicate N z).flatten ((Array.range (N * P.cellsOf el)).map (zarr[· % zarr.size]!)).toList := by
        rw [hlist, hze]
        have : (List.replicate N (zv.cells.toList.map cv)).flatten = (List.replicate N zv.cells.toList).flatten.map cv := by
          rw [List.map_flatten, List.map_replicate]
        rw [this]
        exact RL_cvs _
      have hzt' : ∀ c ∈ z, c.tree = true := by simpa using hzt
      have hrep : ∀ r ∈ List.replicate N z, r.length = P.cellsOf el ∧ ∀ c ∈ r, c.tree = true := fun r hr => by
        obtain ⟨_, rfl⟩ := List.mem_replicate.1 hr
        exact ⟨hzl, hzt'⟩
      have h1s := RL.ones hR (fun c hcm => by
        obtain ⟨r, hr, hcr⟩ := List.mem_flatten.1 hcm
        exact V.tree_one ((hrep r hr).2 c hcr))
      have := new_sl (t := el) H hF hnm hR h1s hsz hrep (by simp [maxLen]; omega)
      rw [List.length_replicate] at this
      obtain ⟨E', hw', hG, hRR, hH, hD⟩ := this
      refine ⟨_, E', ?_, hG, hRR, hH, hD⟩
      rw [hw']
      have hzr : (zeroValue el).run P E.w = .ok zv E.w := by simp [zeroValue, typeInfo, hi', hzv]
      have hnn : ¬ ((N : Int) < 0) := by omega
      by_cases hz0 : N * P.cellsOf el = 0
      · rw [if_pos hz0] at hza
        subst hza
        simp [execOp, Instr.makeSlice, run_underlying hd, hli, hci, asInt, asIntOf, typeInfo, hi, hw, hnn, hby2, run_sizeOf' hi, hz0, newRow, run_newObj]
      · rw [if_neg hz0] at hza
        subst hza
        simp [execOp, Instr.makeSlice, run_underlying hd, hli, hci, asInt, asIntOf, typeInfo, hi, hw, hnn, hby2, run_sizeOf' hi, hz0, hzr, newRow, run_newObj]
    · cases h
  case slice t z0 lo hi mx =>
    split at h
    · rename_i m
      split at h
      · split at h
        · rename_i hcond
          rename_i el hd
          obtain ⟨c1, c2, c3⟩ := hcond
          have hlo := bound_sound he c1
          have hhi : ∃ y k, hi = some y ∧ a.eval y = .int k 0 := (bound_sound he c2).resolve_left (fun h => by simp at h)
          have hmx : ∃ k, a.eval m = .int k 0 := by
            obtain ⟨y, k, h1, h2⟩ := (bound_sound (lo := some m) he c3).resolve_left (fun h => by simp at h)
            simp only [Option.some.injEq] at h1
            subst h1
            exact ⟨k, h2⟩
          obtain ⟨y, k1, rfl, hy⟩ := hhi
          obtain ⟨k2, hmx⟩ := hmx
          have hb : ∀ len cap : Nat, (Instr.sliceBounds true len cap (lo.map a.eval) (some (.int k1 0)) (some (.int k2 0))).run P E.w = .ok (0, 0, 0) E.w := by
            intro len cap
            rcases hlo with ⟨rfl, _⟩ | ⟨z, k3, rfl, hz⟩
            · simp [Instr.sliceBounds, Instr.sliceBound, asIntOf]
            · simp [Instr.sliceBounds, Instr.sliceBound, asIntOf, hz]
          have core : ∀ (ad : Option Addr) (len cap : Nat) (sz : Nat), a.eval z0 = .slice ad len cap → 0 < sz → sz = P.cellsOf el →
              ∃ u E', (execOp a.eval { dst := dst, op := .slice t z0 lo (some y) (some m), type := type, pos := pos, after := after, guard := guard }).run P E.w = .ok (.value u) E'.w ∧ Grows F E E' ∧ R E' (newV nm (.sl sz el [])) u ∧ HRel F E' (upd hp nm (some (.sl sz el []))) ∧ (∀ b, E'.D b ↔ E.D b ∨ b = nm) := by
            intro ad len cap sz hx hz1 hz2
            obtain ⟨inf, hinf⟩ := info_of_cells (P := P) (t := el) (by omega)
            have hG : Grows F E { E with σ := upd E.σ nm (.slice ad 0 0), D := fun b => E.D b ∨ b = nm } :=
              ⟨⟨fun _ h => .inl h, fun b hb => upd_other _ _ (fun e => hnm (e ▸ hb)), Nat.le_refl _, fun _ _ h => ⟨rfl, h⟩⟩, fun _ _ h => h, fun _ h => .inl h, fun _ h => h, fun _ _ => rfl, Ev.refl _ _⟩
            refine ⟨.slice ad 0 0, _, ?_, hG, ?_, ?_, fun b => Iff.rfl⟩
            · simp [execOp, Instr.sliceAt, Instr.slice, run_underlying hd, hx, hy, hmx, hb, run_sizeOf' hinf]
            · simp only [newV, R]
              exact ⟨.inr trivial, (upd_same _ _ _).symm, _, _, _, rfl⟩
            · refine H.add hG hnm (.inr rfl) (upd_same _ _ _) ?_ (fun g hg => ?_)
              · simp only [BRel]
                exact .inr ⟨trivial, hz1, ad, rfl⟩
              · cases ad <;> simp [blkOf] at hg
          have hx := he z0
          unfold qnone at h
          split at h
          · rename_i sz rows hX
            simp only [QR.new.injEq] at h
            obtain ⟨rfl, rfl⟩ := h
            rw [hX] at hx; simp only [R] at hx
            obtain ⟨ad, cap, hx, _⟩ := hx
            exact core _ _ _ _ hx hc.1 hc.2
          · rename_i hX
            simp only [QR.new.injEq] at h
            obtain ⟨rfl, rfl⟩ := h
            rw [hX] at hx; simp only [R] at hx
            exact core _ _ _ _ hx hc rfl
          · rename_i b hX
            simp only [QR.new.injEq] at h
            obtain ⟨rfl, rfl⟩ := h
            rw [hX] at hx; simp only [R] at hx
            obtain ⟨_, _, ad, n, c', hx⟩ := hx
            exact core _ _ _ _ (by assumption) hc rfl
          · cases h
        · cases h
      · cases h
    · (repeat' split at h) <;> cases h
  case fieldAddr => (repeat' split at h) <;> cases h
  case field =>
    unfold loadV at h
    (repeat' split at h) <;> cases h
  case indexAddr => (repeat' split at h) <;> cases h
  case index =>
    unfold loadV at h
    (repeat' split at h) <;> cases h
  case extract => (repeat' split at h) <;> cases h
  case build => (repeat' split at h) <;> cases h
  case call =>
    unfold mmR at h
    (repeat' split at h) <;> cases h
  case buildSlice t n parts =>
    split at h
    · rename_i el hd
      split at h
      · rename_i hcond
        obtain ⟨hseq, hn, hsz, hmax, hzc⟩ := hcond
        obtain ⟨hone, hx⟩ : (∀ r ∈ parts.toList.map (fun p => (e p.2).cells), r.length = P.cellsOf el ∧ ∀ c ∈ r, c.one = true) ∧
            ((x = .sl (P.cellsOf el) el (parts.toList.map fun p => (e p.2).cells) ∧ ∀ r ∈ parts.toList.map (fun p => (e p.2).cells), ∀ c ∈ r, c.tree = true) ∨ x = .slo (P.cellsOf el) el (parts.toList.map fun p => (e p.2).cells)) := by
          unfold slNew at h
          split at h
          · simp only [QR.new.injEq] at h
            obtain ⟨rfl, rfl⟩ := h
            exact ⟨hc, .inr rfl⟩
          · simp only [QR.new.injEq] at h
            obtain ⟨rfl, rfl⟩ := h
            exact ⟨fun r hr => ⟨(hc r hr).1, fun c hcr => ((hc r hr).2 c hcr).2⟩, .inl ⟨rfl, fun r hr c hcr => ((hc r hr).2 c hcr).1⟩⟩
        obtain ⟨inf, hi⟩ := info_of_cells hsz
        have hnl : parts.toList.length = n := by simpa using hn
        -- the zero row's cells
        have hml : (2 : Nat) ^ 24 ≤ maxLen := by decide
        have hnle : n ≤ maxLen := by
          have : n ≤ n * P.cellsOf el := Nat.le_mul_of_pos_right _ hsz
          omega
        have hmap : (parts.map fun p => (p.1, a.eval p.2)).toList = parts.toList.map fun p => (p.1, a.eval p.2) := Array.toList_map ..
        have go : ∀ zero : Array Value, ∃ arr' : Array Value, Instr.fill (fun i => some (i * P.cellsOf el, P.cellsOf el)) ((Array.range (n * P.cellsOf el)).map (zero[· % zero.size]!)) (parts.map fun p => (p.1, a.eval p.2)).toList = some arr' ∧ RL E (parts.toList.map fun p => (e p.2).cells).flatten arr'.toList := by
          intro zero
          obtain ⟨arr', post, hf, ht, hR⟩ := fillRows_sound (E := E) (n := 0) he (k := 0) (pre := []) (arr := (Array.range (n * P.cellsOf el)).map (zero[· % zero.size]!)) hseq hone (by simp [hnl]) (by simp)
          exact ⟨arr', by rw [hmap]; exact hf, by rw [ht]; exact hR⟩
        have fin : ∀ arr' : Array Value, RL E (parts.toList.map fun p => (e p.2).cells).flatten arr'.toList →
            ∃ E', E'.w = E.w.alloc (.cells arr' el) ∧ Grows F E E' ∧ R E' (newV nm x) (.slice (some ⟨E.w.heap.size, 0, none⟩) n n) ∧ HRel F E' (upd hp nm (some x)) ∧ (∀ b, E'.D b ↔ E.D b ∨ b = nm) := by
          intro arr' hR
          have hlen : (parts.toList.map fun p => (e p.2).cells).length = n := by simp [hnl]
          have h1s := RL.ones hR (fun c hcm => by
            obtain ⟨r, hr, hcr⟩ := List.mem_flatten.1 hcm
            exact (hone r hr).2 c hcr)
          rcases hx with ⟨rfl, hx⟩ | rfl
          · have := new_sl (t := el) H hF hnm hR h1s hsz (fun r hr => ⟨(hone r hr).1, hx r hr⟩) (by rw [hlen]; exact hnle)
            rw [hlen] at this
            exact this
          · have := new_slo (t := el) H hF hnm hR h1s hsz (fun r hr => ⟨(hone r hr).1, fun _ _ => trivial⟩) (by rw [hlen]; exact hnle)
            rw [hlen] at this
            exact this
        have hmax' : ¬ n * P.cellsOf el > 2 ^ 24 := by omega
        obtain ⟨zcs, hzcs⟩ := Option.isSome_iff_exists.1 hzc
        obtain ⟨i', z, hi', hzv, _⟩ := zcells_sound hzcs
        by_cases hz : n * P.cellsOf el = 0
        · obtain ⟨arr', hf, hR⟩ := go #[]
          obtain ⟨E', hw, hG, hRR, hH, hD⟩ := fin arr' hR
          refine ⟨_, E', ?_, hG, hRR, hH, hD⟩
          rw [hw]
          simp only [execOp, Instr.buildSlice, Sem.run_bind, run_underlying hd, Result.andThen_ok, run_sizeOf' hi, Sem.run_ite, hmax', if_false, if_pos hz, Sem.run_pure, hf, newRow, run_newObj]
          rfl
        · obtain ⟨arr', hf, hR⟩ := go z.cells
          obtain ⟨E', hw, hG, hRR, hH, hD⟩ := fin arr' hR
          refine ⟨_, E', ?_, hG, hRR, hH, hD⟩
          rw [hw]
          have hzr : (zeroValue el).run P E.w = .ok z E.w := by simp [zeroValue, typeInfo, hi', hzv]
          simp only [execOp, Instr.buildSlice, Sem.run_bind, run_underlying hd, Result.andThen_ok, run_sizeOf' hi, Sem.run_ite, hmax', if_false, if_neg hz, Sem.run_pure, hzr, hf, newRow, run_newObj]
          rfl
      · exact absurd h (by simp)
    · exact absurd h (by simp)
end
end Go.Proofs.YtbnjijffkjcmcaaDoor.AL
namespace Go.Proofs.YtbnjijffkjcmcaaDoor.AL
open Go

/-! ### Stores -/
inductive LR where
  | store (c : Prop) (b : Nat) (x : Blk)
  | bad

def slStore (o : Bool) (c d : Prop) (b sz : Nat) (ty : TypeId) (rows : List (List V)) : LR :=
  if o = true then .store c b (.slo sz ty rows) else .store (c ∧ d) b (.sl sz ty rows)
def lstore (P : Program) (hp : Nat → Option Blk) (e : Operand → V) (t : TypeId) (p x : Operand) : LR :=
  match e p with
  | .ptr b off => match hp b with
    | some (.box ty cells) => .store (off + P.cellsOf t ≤ cells.length ∧ (e x).cells.length = P.cellsOf t ∧ 0 < P.cellsOf t ∧ (e x).cells.all V.one = true) b (.box ty (putCells cells off (e x).cells))
    | _ => .bad
  | .eptr b sz i off => match hp b with
    | some (.sl sz' ty rows) => slStore (ownCells (e x).cells) (sz' = sz ∧ i < rows.length ∧ off + P.cellsOf t ≤ sz ∧ (e x).cells.length = P.cellsOf t ∧ 0 < P.cellsOf t ∧ (e x).cells.all V.one = true) ((e x).cells.all V.tree = true) b sz' ty (rows.set i (putCells (rows.getD i []) off (e x).cells))
    | some (.slo sz' ty rows) => .store (sz' = sz ∧ i < rows.length ∧ off + P.cellsOf t ≤ sz ∧ (e x).cells.length = P.cellsOf t ∧ 0 < P.cellsOf t ∧ (e x).cells.all V.one = true) b
        (.slo sz' ty (rows.set i (putCells (rows.getD i []) off (e x).cells)))
    | _ => .bad
  | _ => .bad

/-- A map in which a string's value is set. -/
def mput : List V → List V → ByteArray → V → List V × List V
  | .str a :: ks, v :: vs, s, x => if a = s then (.str a :: ks, x :: vs) else (.str a :: (mput ks vs s x).1, v :: (mput ks vs s x).2)
  | _, _, s, x => ([.str s], [x])
def lmap (P : Program) (hp : Nat → Option Blk) (e : Operand → V) (t : TypeId) (m k x : Operand) : LR :=
  match P.underlying t with
  | some (.map kt _) => match P.underlying kt with
    | some .string => match e m with
      | .mp b => match hp b with
        | some (.map ks vs) => match e k with
          | .str s => .store (mstr ks = true) b (.map (mput ks vs s (e x)).1 (mput ks vs s (e x)).2)
          | _ => .bad
        | _ => .bad
      | _ => .bad
    | _ => .bad
  | _ => .bad

theorem putCells_eq : ∀ (xs cs : List V) (off : Nat), off + xs.length ≤ cs.length → putCells cs off xs = cs.take off ++ (xs ++ cs.drop (off + xs.length))
  | [], cs, off, h => by simp [putCells]
  | x :: xs, cs, off, h => by
    simp only [List.length_cons] at h
    simp only [putCells]
    rw [putCells_eq xs _ (off + 1) (by simp; omega)]
    have e1 : (cs.set off x).take (off + 1) = cs.take off ++ [x] := by
      rw [List.take_succ_eq_append_getElem (by simp; omega), List.take_set_of_le (Nat.le_refl _)]
      simp
    rw [e1, List.drop_set_of_lt (by omega)]
    simp only [List.append_assoc, List.cons_append, List.nil_append, List.length_cons]
    congr 4
    omega
theorem putCells_length (xs cs : List V) (off : Nat) : (putCells cs off xs).length = cs.length := by
  induction xs generalizing cs off with
  | nil => rfl
  | cons x xs ih => simp only [putCells]; rw [ih]; simp
theorem set_flatten {α : Type} {sz i : Nat} {rows : List (List α)} (h : ∀ r ∈ rows, r.length = sz) (hi : i < rows.length) (r : List α) :
    (rows.set i r).flatten = rows.flatten.take (i * sz) ++ (r ++ rows.flatten.drop ((i + 1) * sz)) := by
  rw [List.set_eq_take_append_cons_drop, if_pos hi, List.flatten_append, List.flatten_cons, drop_flatten_uni (i + 1) h]
  congr 1
  have h2 : rows.flatten = (rows.take i).flatten ++ (rows.drop i).flatten := by rw [← List.flatten_append, List.take_append_drop]
  have h3 : (rows.take i).flatten.length = i * sz := by
    rw [length_flatten_uni (sz := sz) (fun r hr => h r (List.mem_of_mem_take hr)), List.length_take, Nat.min_eq_left (by omega)]
  rw [h2, List.take_left' h3]
theorem putCells_row {sz i off : Nat} {rows : List (List V)} (h : ∀ r ∈ rows, r.length = sz) (hi : i < rows.length) (xs : List V) (ho : off + xs.length ≤ sz) :
    (rows.set i (putCells (rows.getD i []) off xs)).flatten = putCells rows.flatten (i * sz + off) xs := by
  have hrow : (rows.getD i []).length = sz := h _ (getD_mem hi)
  have hfl := length_flatten_uni h
  have hle : i * sz + sz ≤ rows.length * sz := by
    have : (i + 1) * sz ≤ rows.length * sz := Nat.mul_le_mul_right _ hi
    rw [Nat.add_mul, Nat.one_mul] at this
    exact this
  rw [set_flatten h hi, putCells_eq _ _ _ (by rw [hrow]; exact ho), putCells_eq _ _ _ (by rw [hfl]; omega), ← row_flatten h hi]
  generalize rows.flatten = fl at *
  have e1 : fl.take (i * sz + off) = fl.take (i * sz) ++ (fl.drop (i * sz)).take off := by rw [List.take_add]
  rw [e1, List.take_take, Nat.min_eq_left (by omega), List.drop_take, List.drop_drop]
  simp only [List.append_assoc]
  congr 3
  rw [show (i + 1) * sz = i * sz + sz by rw [Nat.add_mul, Nat.one_mul]]
  have : fl.drop (i * sz + (off + xs.length)) = (fl.drop (i * sz + (off + xs.length))).take (sz - (off + xs.length)) ++ fl.drop (i * sz + sz) := by
    conv => lhs; rw [← List.take_append_drop (sz - (off + xs.length)) (fl.drop (i * sz + (off + xs.length)))]
    rw [List.drop_drop]
    congr 2
    omega
  rw [Nat.add_assoc]
  exact this.symm

section
variable {P : Program} {E : Env} {F : Nat → Prop} {hp : Nat → Option Blk} {a : Act} {e : Operand → V}
theorem RL.put {xs cs : List V} {us vs : List Value} {off : Nat} (h1 : RL E xs us) (h2 : RL E cs vs) (h : off + xs.length ≤ cs.length) :
    RL E (putCells cs off xs) (vs.take off ++ (us ++ vs.drop (off + us.length))) := by
  have := putCells_sound (off := off) h1 h2
  rwa [foldl_set_splice off us vs (by rw [h1.length, h2.length]; exact h)] at this

/-- The world in which one row of the call's own has been written anew. -/
theorem HRel.write (H : HRel F E hp) {b : Nat} {x x' : Blk} (hb : hp b = some x) {g : Nat} (hg : blkOf (E.σ b) = some g) {w' : World} (hsize : w'.heap.size = E.w.heap.size) (hoth : ∀ k, k ≠ g → w'.heap[k]? = E.w.heap[k]?)
    (hos : w'.os = E.w.os) (htape : w'.tape = E.w.tape) (hout : w'.output = E.w.output) (hdr : E.w.drawn ≤ w'.drawn)
    (hx : BRel F { E with w := w' } (E.σ b) x') : HRel F { E with w := w' } (upd hp b (some x')) ∧ E.le { E with w := w' } ∧ Ev F E.w w' := by
  have hOg := (H.blk b x hb).2.own hg
  have hle : E.le { E with w := w' } := ⟨fun _ h => h, fun _ _ => rfl, by rw [hsize]; exact Nat.le_refl _, fun k hk hO => ⟨hoth k (fun e => hO (e ▸ hOg.2)), hO⟩⟩
  have hev : Ev F E.w w' := ⟨hos, htape, hout, by omega, fun k hk => hoth k (fun e => hOg.1 (e ▸ hk)), fun _ => hdr⟩
  refine ⟨⟨fun b' y hy => ?_, fun b1 b2 y1 y2 g' h1 h2 => ?_⟩, hle, hev⟩
  · by_cases hbb : b' = b
    · subst hbb
      simp only [upd_same, Option.some.injEq] at hy
      subst hy
      exact ⟨(H.blk b' x hb).1, hx⟩
    · rw [upd_other _ _ hbb] at hy
      obtain ⟨h1, h2⟩ := H.blk b' y hy
      refine ⟨h1, ?_⟩
      have hne : ∀ k, blkOf (E.σ b') = some k → k ≠ g := fun k hk he => hbb (H.sep b' b y x g hy hb (he ▸ hk) hg)
      cases y with
      | box ty cells =>
        simp only [BRel] at h2 ⊢
        obtain ⟨k, arr, hσ, hh, hR, ho, hF, hO⟩ := h2
        have hk := hne k (by rw [hσ]; rfl)
        exact ⟨k, arr, hσ, by rw [hoth k hk]; exact hh, RL.mono hle _ _ hR, ho, hF, hO⟩
      | sl sz ty rows =>
        simp only [BRel] at h2 ⊢
        rcases h2 with ⟨vs, hown, hR, ho, hsz, hun, hF⟩ | h2
        case inr => exact .inr h2
        rcases hown.2 with ⟨hσ, hn⟩ | ⟨g', cap, cur, hσ, h3, h4, h5, h6⟩
        · exact .inr ⟨List.eq_nil_of_length_eq_zero hn, hsz, none, hσ⟩
        · by_cases hc0 : cap = 0
          · have hn : rows.length = 0 := by omega
            exact .inr ⟨List.eq_nil_of_length_eq_zero hn, hsz, _, by rw [hσ, hn, hc0]⟩
          · have hk := hne g' (by rw [hσ]; simp [blkOf, hc0])
            refine .inl ⟨vs, ⟨hown.1, .inr ⟨g', cap, cur, hσ, h3, (hoth g' hk).trans h4, h5, h6⟩⟩, RL.mono hle _ _ hR, ho, hsz, hun, hF⟩
      | slo sz ty rows =>
        simp only [BRel] at h2 ⊢
        rcases h2 with ⟨vs, hown, hR, ho, hsz, hun, hF⟩ | h2
        case inr => exact .inr h2
        rcases hown.2 with ⟨hσ, hn⟩ | ⟨g', cap, cur, hσ, h3, h4, h5, h6⟩
        · exact .inr ⟨List.eq_nil_of_length_eq_zero hn, hsz, none, hσ⟩
        · by_cases hc0 : cap = 0
          · have hn : rows.length = 0 := by omega
            exact .inr ⟨List.eq_nil_of_length_eq_zero hn, hsz, _, by rw [hσ, hn, hc0]⟩
          · have hk := hne g' (by rw [hσ]; simp [blkOf, hc0])
            refine .inl ⟨vs, ⟨hown.1, .inr ⟨g', cap, cur, hσ, h3, (hoth g' hk).trans h4, h5, h6⟩⟩, RL.mono hle _ _ hR, ho, hsz, hun, hF⟩
      | obj o =>
        simp only [BRel] at h2 ⊢
        obtain ⟨k, hσ, hh, hc, hF, hO⟩ := h2
        have hk := hne k (by rw [hσ]; rfl)
        exact ⟨k, hσ, (hoth k hk).trans hh, hc, hF, hO⟩
      | loop st pend fn tm nt ps assign body d =>
        simp only [BRel] at h2 ⊢
        obtain ⟨k, r, hσ, hh, h1, h2, h3, h4, h5, h6, h7, h8, h9, hF, hO⟩ := h2
        have hk := hne k (by rw [hσ]; rfl)
        exact ⟨k, r, hσ, (hoth k hk).trans hh, h1, h2, h3, h4, fun t => R.mono hle _ _ (h5 t), h6, h7, h8, h9, hF, hO⟩
      | map ks vs =>
        simp only [BRel] at h2 ⊢
        obtain ⟨k, arr, clk, hσ, hh, h1, h2, hF, hO⟩ := h2
        have hk := hne k (by rw [hσ]; rfl)
        exact ⟨k, arr, clk, hσ, (hoth k hk).trans hh, RL.mono hle _ _ h1, RL.mono hle _ _ h2, hF, hO⟩
  · have same : ∀ {b' y'}, upd hp b (some x') b' = some y' → ∃ y'', hp b' = some y'' := by
      intro b' y' hy
      by_cases hbb : b' = b
      · subst hbb; exact ⟨x, hb⟩
      · rw [upd_other _ _ hbb] at hy; exact ⟨y', hy⟩
    intro h3 h4
    obtain ⟨z1, hz1⟩ := same h1
    obtain ⟨z2, hz2⟩ := same h2
    exact H.sep b1 b2 z1 z2 g' hz1 hz2 h3 h4

theorem lstore_sound {hv : Nat → Option Blk} (H : HRel F E hp) (hsub : ∀ b x, hv b = some x → hp b = some x) (he : ∀ x, R E (e x) (a.eval x)) {o : Oper} {t : TypeId} {p x : Operand} (ho : o.op = .store t p x) {c : Prop} {b : Nat} {y : Blk} (h : lstore P hv e t p x = .store c b y) (hc : c) :
    ∃ w', (execOp a.eval o).run P E.w = .ok .skip w' ∧ HRel F { E with w := w' } (upd hp b (some y)) ∧ E.le { E with w := w' } ∧ Ev F E.w w' := by
  have hp1 := he p
  have red : ∀ (ad : Addr) (w' : World), a.eval p = .pointer (some ad) → (storeVar t ad (a.eval x)).run P E.w = .ok () w' → (execOp a.eval o).run P E.w = .ok .skip w' := by
    intro ad w' hpv hs
    simp only [execOp, ho, Instr.storeAt, hpv, Instr.sureAddr, Sem.run_bind, Sem.run_pure, Result.andThen_ok, hs]
  unfold lstore at h
  split at h
  · rename_i b' off hP
    split at h
    · rename_i ty cells hbk
      replace hbk := hsub _ _ hbk
      simp only [LR.store.injEq] at h
      obtain ⟨rfl, rfl, rfl⟩ := h
      obtain ⟨hfit, hlen, hpos, hone⟩ := hc
      obtain ⟨i, hi⟩ := info_of_cells hpos
      rw [hP] at hp1; simp only [R] at hp1
      obtain ⟨hD, g, hσ, hpv⟩ := hp1
      obtain ⟨_, g', arr, hσ', hh, hR, h1, hF, hO⟩ := H.blk b' _ hbk
      rw [hσ] at hσ'
      simp only [Value.pointer.injEq, Option.some.injEq, Addr.mk.injEq, and_true] at hσ'
      subst hσ'
      have hcl := (he x).cells (ok_of_one hone)
      have hvl : (a.eval x).cells.toList.length = P.cellsOf t := by rw [hcl.length, hlen]
      have h1s := RL.ones hcl (ones_all hone)
      have hal : arr.toList.length = cells.length := hR.length
      have hst := run_storeCells_at P g off ty (a.eval x).cells.toList 0 arr E.w hh (by rw [hvl]; simp at hal ⊢; omega) h1s
      simp only [Nat.add_zero] at hst
      obtain ⟨arr', harr⟩ : ∃ arr' : Array Value, arr' = (arr.toList.take off ++ (a.eval x).cells.toList ++ arr.toList.drop (off + (a.eval x).cells.toList.length)).toArray := ⟨_, rfl⟩
      rw [← harr] at hst
      refine ⟨E.w.setRow g arr', red _ _ hpv ?_, H.write (x' := .box ty (putCells cells off (e x).cells)) hbk (g := g) (by rw [hσ]; rfl) (setRow_size _ _ _) (fun k hk => setRow_other _ _ _ _ hk) rfl rfl rfl (Nat.le_refl _) ?_⟩
      · simp only [storeVar, Sem.run_bind, run_sizeOf' hi, Result.andThen_ok]
        have : ¬ (a.eval x).cells.size ≠ P.cellsOf t := by simpa using hvl
        rw [if_neg this]
        exact hst
      · simp only [BRel]
        refine ⟨g, _, hσ, setRow_heap _ _ _ _ _ _ hh, ?_, ?_, hF, hO⟩
        · have hle : E.le { E with w := E.w.setRow g (arr.toList.take off ++ (a.eval x).cells.toList ++ arr.toList.drop (off + (a.eval x).cells.toList.length)).toArray } :=
            ⟨fun _ h => h, fun _ _ => rfl, by simp, fun k hk hOk => ⟨setRow_other _ _ _ _ (fun e => hOk (e ▸ hO)), hOk⟩⟩
          have := RL.put hcl hR (off := off) (by rw [hlen]; exact hfit)
          have := RL.mono hle _ _ this
          rw [harr]
          simpa [List.append_assoc] using this
        · intro u hu
          rw [harr] at hu
          simp only [List.append_assoc, List.mem_append] at hu
          rcases hu with hu | hu | hu
          · exact h1 u (List.mem_of_mem_take hu)
          · exact h1s u hu
          · exact h1 u (List.mem_of_mem_drop hu)
    · exact absurd h (by simp)
  · rename_i b' sz i off hP
    have core : ∀ (sz' : Nat) (ty : TypeId) (rows : List (List V)) (x0 : Blk), hp b' = some x0 → BRel F E (E.σ b') (.slo sz' ty rows) →
        (sz' = sz ∧ i < rows.length ∧ off + P.cellsOf t ≤ sz ∧ (e x).cells.length = P.cellsOf t ∧ 0 < P.cellsOf t ∧ (e x).cells.all V.one = true) → ∀ y : Blk,
        (y = .slo sz' ty (rows.set i (putCells (rows.getD i []) off (e x).cells)) ∨ (y = .sl sz' ty (rows.set i (putCells (rows.getD i []) off (e x).cells)) ∧ (e x).cells.all V.tree = true ∧ ∀ r ∈ rows, ∀ c ∈ r, c.tree = true)) →
        ∃ w', (execOp a.eval o).run P E.w = .ok .skip w' ∧ HRel F { E with w := w' } (upd hp b' (some y)) ∧ E.le { E with w := w' } ∧ Ev F E.w w' := by
      intro sz' ty rows x0 hbk hB hcc y hy
      obtain ⟨rfl, hi, hfit, hlen, hpos, hone⟩ := hcc
      obtain ⟨inf, hinf⟩ := info_of_cells hpos
      rw [hP] at hp1; simp only [R] at hp1
      obtain ⟨hD, g, n, cap, hσ, hpv⟩ := hp1
      obtain ⟨vs, hown, hR, h1, hsz, hun, hF⟩ := (show BRel F E (E.σ b') (.slo sz' ty rows) from hB).resolve_right (fun h => by rw [h.1] at hi; simp at hi)
      rcases hown.2 with ⟨hn, hn0⟩ | ⟨g', cap', cur, hσ', _, hh, hcap, hml, hcs, htk⟩
      · omega
      rw [hσ] at hσ'
      simp only [Value.slice.injEq, Option.some.injEq, Addr.mk.injEq, and_true] at hσ'
      obtain ⟨rfl, rfl, rfl⟩ := hσ'
      have hbg : blkOf (E.σ b') = some g := by
        rw [hσ]
        simp only [blkOf]
        rw [if_neg (by omega)]
      have hFg := hF g hbg
      have hcl := (he x).cells (ok_of_one hone)
      have hvl : (a.eval x).cells.toList.length = P.cellsOf t := by rw [hcl.length, hlen]
      have h1s := RL.ones hcl (ones_all hone)
      have hun1 : ∀ r ∈ rows, r.length = sz' := fun r hr => (hun r hr).1
      have hle1 : i * sz' + sz' ≤ rows.length * sz' := by
        have : (i + 1) * sz' ≤ rows.length * sz' := Nat.mul_le_mul_right _ hi
        rwa [Nat.add_mul, Nat.one_mul] at this
      have hle2 : rows.length * sz' ≤ cap * sz' := Nat.mul_le_mul_right _ hcap
      have hst := run_storeCells_at P g (i * sz' + off) ty (a.eval x).cells.toList 0 cur E.w hh (by rw [hvl, hcs]; omega) h1s
      simp only [Nat.add_zero] at hst
      obtain ⟨arr', harr⟩ : ∃ arr' : Array Value, arr' = (cur.toList.take (i * sz' + off) ++ (a.eval x).cells.toList ++ cur.toList.drop (i * sz' + off + (a.eval x).cells.toList.length)).toArray := ⟨_, rfl⟩
      rw [← harr] at hst
      have hvsl : vs.length = rows.length * sz' := hown.1
      have hput := putCells_row (off := off) hun1 hi (e x).cells (by rw [hlen]; exact hfit)
      refine ⟨E.w.setRow g arr', red _ _ hpv ?_, H.write (x' := y) hbk (g := g) hbg (setRow_size _ _ _) (fun k hk => setRow_other _ _ _ _ hk) rfl rfl rfl (Nat.le_refl _) ?_⟩
      · simp only [storeVar, Sem.run_bind, run_sizeOf' hinf, Result.andThen_ok]
        have : ¬ (a.eval x).cells.size ≠ P.cellsOf t := by simpa using hvl
        rw [if_neg this]
        exact hst
      · have hslo : BRel F { E with w := E.w.setRow g arr' } (E.σ b') (.slo sz' ty (rows.set i (putCells (rows.getD i []) off (e x).cells))) := by
          simp only [BRel]
          refine .inl ⟨vs.take (i * sz' + off) ++ ((a.eval x).cells.toList ++ vs.drop (i * sz' + off + (a.eval x).cells.toList.length)), ?_, ?_, ?_, hsz, ?_, ?_⟩
          · refine ⟨?_, .inr ⟨g, cap, _, by rw [List.length_set]; exact hσ, Nat.zero_le _, setRow_heap _ _ _ _ _ _ hh, by rw [List.length_set]; exact hcap, hml, ?_, ?_⟩⟩
            · simp only [List.length_append, List.length_take, List.length_drop, List.length_set, hvsl, hvl]
              omega
            · have := hcs
              rw [harr]
              simp only [List.size_toArray, List.length_append, List.length_take, List.length_drop, Array.length_toList, hvl]
              omega
            · rw [List.length_set, ← htk, harr]
              simp only [List.append_assoc]
              have hcl2 : cur.toList.length = cap * sz' := by simpa using hcs
              generalize cur.toList = cl at *
              generalize (a.eval x).cells.toList = us at *
              rw [List.take_append, List.take_append, List.length_take, Nat.min_eq_left (by omega), List.take_take, List.take_take, Nat.min_eq_right (by omega), Nat.min_eq_left (by omega), List.take_of_length_le (l := us) (by omega),
                List.drop_take]
              congr 3
              omega
          · have hle : E.le { E with w := E.w.setRow g arr' } :=
              ⟨fun _ h => h, fun _ _ => rfl, by simp, fun k hk hOk => ⟨setRow_other _ _ _ _ (fun e => hOk (e ▸ hFg.2)), hOk⟩⟩
            rw [hput]
            exact RL.mono hle _ _ (RL.put hcl hR (by rw [hR.length.symm, hvsl, hlen]; omega))
          · intro u hu
            simp only [List.mem_append] at hu
            rcases hu with hu | hu | hu
            · exact h1 u (List.mem_of_mem_take hu)
            · exact h1s u hu
            · exact h1 u (List.mem_of_mem_drop hu)
          · intro r hr
            rcases List.mem_or_eq_of_mem_set hr with hr | rfl
            · exact hun r hr
            · exact ⟨by rw [putCells_length]; exact hun1 _ (getD_mem hi), fun _ _ => trivial⟩
          · exact hF
        rcases hy with rfl | ⟨rfl, htree, htr⟩
        · exact hslo
        · simp only [BRel] at hslo ⊢
          rcases hslo with ⟨vs', k1, k2, k3, k4, k5, k6⟩ | hslo
          · refine .inl ⟨vs', k1, k2, k3, k4, fun r hr => ⟨(k5 r hr).1, fun c hc => ?_⟩, k6⟩
            rcases List.mem_or_eq_of_mem_set hr with hr | rfl
            · exact htr r hr c hc
            · rw [putCells_eq _ _ _ (by rw [hun1 _ (getD_mem hi), hlen]; exact hfit)] at hc
              simp only [List.mem_append] at hc
              rcases hc with hc | hc | hc
              · exact htr _ (getD_mem hi) c (List.mem_of_mem_take hc)
              · exact (by simpa using htree : ∀ c ∈ (e x).cells, c.tree = true) c hc
              · exact htr _ (getD_mem hi) c (List.mem_of_mem_drop hc)
          · exact .inr hslo
    split at h
    · rename_i sz' ty rows hbk
      replace hbk := hsub _ _ hbk
      have hB := (H.blk b' _ hbk).2
      unfold slStore at h
      split at h
      · simp only [LR.store.injEq] at h
        obtain ⟨rfl, rfl, rfl⟩ := h
        exact core sz' ty rows _ hbk hB.toSlo hc _ (.inl rfl)
      · simp only [LR.store.injEq] at h
        obtain ⟨rfl, rfl, rfl⟩ := h
        refine core sz' ty rows _ hbk hB.toSlo hc.1 _ (.inr ⟨rfl, hc.2, ?_⟩)
        simp only [BRel] at hB
        rcases hB with ⟨vs, _, _, _, _, h5, _⟩ | ⟨rfl, _⟩
        · exact fun r hr => (h5 r hr).2
        · simp
    · rename_i sz' ty rows hbk
      replace hbk := hsub _ _ hbk
      simp only [LR.store.injEq] at h
      obtain ⟨rfl, rfl, rfl⟩ := h
      exact core sz' ty rows _ hbk (H.blk b' _ hbk).2 hc _ (.inl rfl)
    · exact absurd h (by simp)
  · exact absurd h (by simp)
theorem mput_sound {E : Env} {s : ByteArray} {x : V} {u : Value} (hx : R E x u) (clk : Nat) : ∀ {ks vs : List V} {es : List MapEntry} {i : Nat}, RL E ks (es.map (·.key)) → RL E vs (es.map (·.val)) → mstr ks = true →
    (∃ j v0, Instr.findNow .string (.string s) es i = some (some (i + j, v0)) ∧ j < es.length ∧ (∀ e, es[j]? = some e → e.key = .string s) ∧ RL E (mput ks vs s x).1 ((es.modify j fun e => { e with key := .string s, val := u }).map (·.key)) ∧ RL E (mput ks vs s x).2 ((es.modify j fun e => { e with key := .string s, val := u }).map (·.val))) ∨
    (Instr.findNow .string (.string s) es i = some none ∧ RL E (mput ks vs s x).1 ((es ++ [(MapEntry.mk (.string s) u clk)]).map (·.key)) ∧ RL E (mput ks vs s x).2 ((es ++ [(MapEntry.mk (.string s) u clk)]).map (·.val)))
  | [], vs, es, i, hk, hv, hm => by
    simp only [RL, List.map_eq_nil_iff] at hk
    subst hk
    right
    simp only [List.map_nil] at hv
    have hvs : vs = [] := by
      cases vs with
      | nil => rfl
      | cons v vs => simp [RL] at hv
    subst hvs
    simp only [mput, Instr.findNow, List.nil_append, List.map_cons, List.map_nil, RL, R, true_and]
    exact ⟨⟨_, _, rfl, rfl, rfl⟩, ⟨_, _, rfl, hx, rfl⟩⟩
  | .str a :: ks, vs, [], i, hk, hv, hm => by simp [RL] at hk
  | .str a :: ks, vs, e :: es, i, hk, hv, hm => by
    simp only [RL, List.map_cons, List.cons.injEq] at hk
    obtain ⟨k0, ks', ⟨rfl, rfl⟩, hk0, hks⟩ := hk
    simp only [R] at hk0
    cases vs with
    | nil => simp [RL] at hv
    | cons v vs =>
      simp only [RL, List.map_cons, List.cons.injEq] at hv
      obtain ⟨v0, vs', ⟨rfl, rfl⟩, hv0, hvs⟩ := hv
      simp only [mstr] at hm
      have ih := mput_sound (s := s) (x := x) hx clk (i := i + 1) hks hvs hm
      simp only [mput, Instr.findNow, hk0, Instr.sameNow]
      by_cases h : a = s
      · subst h
        left
        refine ⟨0, e.val, by simp [bytes_beq], by simp, fun e' he => by simp at he; subst he; exact hk0, ?_, ?_⟩
        · simp only [if_true, List.modify_zero_cons, List.map_cons, RL, R]
          exact ⟨_, _, rfl, rfl, hks⟩
        · simp only [if_true, List.modify_zero_cons, List.map_cons, RL]
          exact ⟨_, _, rfl, hx, hvs⟩
      · rw [if_neg h]
        have h2 : (s == a) = false := by rw [bytes_beq]; simpa using fun (e : s = a) => h e.symm
        rw [h2]
        rcases ih with ⟨j, w0, e1, e2, e3, e4, e5⟩ | ⟨e1, e2, e3⟩
        · left
          refine ⟨j + 1, w0, by rw [e1]; simp only [Option.some.injEq, Prod.mk.injEq, and_true]; omega, by simpa using e2, fun e' he => e3 e' (by simpa using he), ?_, ?_⟩
          · simp only [List.modify_succ_cons, List.map_cons, RL, R]
            exact ⟨_, _, rfl, hk0, e4⟩
          · simp only [List.modify_succ_cons, List.map_cons, RL]
            exact ⟨_, _, rfl, hv0, e5⟩
        · right
          refine ⟨e1, ?_, ?_⟩
          · simp only [List.cons_append, List.map_cons, RL, R]
            exact ⟨_, _, rfl, hk0, e2⟩
          · simp only [List.cons_append, List.map_cons, RL]
            exact ⟨_, _, rfl, hv0, e3⟩
theorem lmap_sound {hv : Nat → Option Blk} (H : HRel F E hp) (hsub : ∀ b x, hv b = some x → hp b = some x) (he : ∀ x, R E (e x) (a.eval x)) {o : Oper} {t : TypeId} {m k x : Operand} (ho : o.op = .mapUpdate t m k x) {c : Prop} {b : Nat} {y : Blk} (h : lmap P hv e t m k x = .store c b y) (hc : c) :
    ∃ w', (execOp a.eval o).run P E.w = .ok .skip w' ∧ HRel F { E with w := w' } (upd hp b (some y)) ∧ E.le { E with w := w' } ∧ Ev F E.w w' := by
  unfold lmap at h
  split at h
  case h_2 => cases h
  rename_i kt et hd
  split at h
  case h_2 => cases h
  rename_i hkt
  split at h
  case h_2 => cases h
  rename_i b' hM
  split at h
  case h_2 => cases h
  rename_i ks vs hbk
  replace hbk := hsub _ _ hbk
  split at h
  case h_2 => cases h
  rename_i s hK
  simp only [LR.store.injEq] at h
  obtain ⟨rfl, rfl, rfl⟩ := h
  have hm := he m
  rw [hM] at hm; simp only [R] at hm
  obtain ⟨hD, hm, g0, hg0⟩ := hm
  have hk := he k
  rw [hK] at hk; simp only [R] at hk
  obtain ⟨_, hB⟩ := H.blk b' _ hbk
  simp only [BRel] at hB
  obtain ⟨g, arr, clk, hσ, hh, h1, h2, hF, hO⟩ := hB
  rw [hσ] at hm
  have hbg : blkOf (E.σ b') = some g := by rw [hσ]; rfl
  have hgo : (getObj g).run P E.w = .ok (.map arr clk) E.w := by simp [getObj, Sem.run, hh]
  have hck : ∀ z, (Instr.checkKey z 10000 kt (.string s)).run P E.w = .ok () E.w := fun z => checkKey_str hkt s E.w
  have hfk : ∀ r, Instr.findNow .string (.string s) arr.toList 0 = some r → (Instr.findKey kt (.string s) arr.toList).run P E.w = .ok r E.w := by
    intro r hr
    unfold Instr.findKey
    simp [run_underlying hkt, hr]
  have hlt : g < E.w.heap.size := (Array.getElem?_eq_some_iff.1 hh).1
  have hso : ∀ o' : Obj, (setObj g o').run P E.w = .ok () (E.w.putObj g o') := fun o' => by simp [setObj, Sem.run, hh, World.putObj]
  have fin : ∀ (arr' : Array MapEntry) (clk' : Nat), (execOp a.eval o).run P E.w = .ok .skip (E.w.putObj g (.map arr' clk')) →
      (∀ E', E.le E' → RL E' (mput ks vs s (e x)).1 (arr'.toList.map (·.key))) → (∀ E', E.le E' → RL E' (mput ks vs s (e x)).2 (arr'.toList.map (·.val))) →
      ∃ w', (execOp a.eval o).run P E.w = .ok .skip w' ∧ HRel F { E with w := w' } (upd hp b' (some (.map (mput ks vs s (e x)).1 (mput ks vs s (e x)).2))) ∧ E.le { E with w := w' } ∧ Ev F E.w w' := by
    intro arr' clk' hrun k1 k2
    have hle : E.le { E with w := E.w.putObj g (.map arr' clk') } :=
      ⟨fun _ h => h, fun _ _ => rfl, by simp, fun k hk hOk => ⟨World.putObj_heap_other (fun e => hOk (e ▸ hO)), hOk⟩⟩
    refine ⟨_, hrun, H.write (x' := .map (mput ks vs s (e x)).1 (mput ks vs s (e x)).2) hbk (g := g) hbg (by simp) (fun k hk => World.putObj_heap_other hk) rfl rfl rfl (Nat.le_refl _) ?_⟩
    simp only [BRel]
    exact ⟨g, arr', clk', hσ, World.putObj_heap_same hlt, k1 _ hle, k2 _ hle, hF, hO⟩
  rcases mput_sound (he x) clk (i := 0) h1 h2 hc with ⟨j, v0, e1, e2, e3, e4, e5⟩ | ⟨e1, e2, e3⟩
  · refine fin (arr.modify j fun en => { en with key := .string s, val := a.eval x }) clk ?_ (fun E' hE => ?_) (fun E' hE => ?_)
    · have hst : (Instr.keyThatStays (((arr[j]?).map (·.key)).getD (.string s)) (.string s)).run P E.w = .ok (.string s) E.w := by
        have : ((arr[j]?).map (·.key)).getD (.string s) = .string s := by
          cases ha : arr[j]? with
          | none => rfl
          | some en => rw [Option.map_some, Option.getD_some]; exact e3 en (by simpa using ha)
        rw [this]
        simp [Instr.keyThatStays, Instr.sameBits, bytes_beq]
      simp only [Nat.zero_add] at e1
      simp [execOp, ho, Instr.mapUpdate, run_underlying hd, hm, hk, hgo, hck, hfk _ e1, hst, hso]
    · rw [Array.toList_modify]; exact RL.mono hE _ _ e4
    · rw [Array.toList_modify]; exact RL.mono hE _ _ e5
  · refine fin (arr.push { key := .string s, val := a.eval x, born := clk }) (clk + 1) ?_ (fun E' hE => ?_) (fun E' hE => ?_)
    · simp [execOp, ho, Instr.mapUpdate, run_underlying hd, hm, hk, hgo, hck, hfk _ e1, hso]
    · rw [Array.toList_push]; exact RL.mono hE _ _ e2
    · rw [Array.toList_push]; exact RL.mono hE _ _ e3
end
end Go.Proofs.YtbnjijffkjcmcaaDoor.AL
namespace Go.Proofs.YtbnjijffkjcmcaaDoor.AL
open Go
/-! ### append -/
/-- A block reads on where its memory is kept. -/
theorem BRel.keep {F : Nat → Prop} {E E' : Env} (hle : E.le E') (hO : ∀ g, E.O g → E'.O g) {v : Value} {x : Blk} (hk : ∀ g, blkOf v = some g → E'.w.heap[g]? = E.w.heap[g]?) (hx : BRel F E v x) : BRel F E' v x := by
  cases x with
  | box ty cells =>
    simp only [BRel] at hx ⊢
    obtain ⟨k, arr, hσ, hh, hR, ho, hF, hOk⟩ := hx
    exact ⟨k, arr, hσ, (hk k (by rw [hσ]; rfl)).trans hh, RL.mono hle _ _ hR, ho, hF, hO k hOk⟩
  | sl sz ty rows =>
    simp only [BRel] at hx ⊢
    rcases hx with ⟨vs, hown, hR, ho, hsz, hun, hF⟩ | h2
    case inr => exact .inr h2
    rcases hown.2 with ⟨hσ, hn⟩ | ⟨g', cap, cur, hσ, h3, h4, h5, h6⟩
    · exact .inr ⟨List.eq_nil_of_length_eq_zero hn, hsz, none, hσ⟩
    · by_cases hc0 : cap = 0
      · have hn : rows.length = 0 := by omega
        exact .inr ⟨List.eq_nil_of_length_eq_zero hn, hsz, _, by rw [hσ, hn, hc0]⟩
      · exact .inl ⟨vs, ⟨hown.1, .inr ⟨g', cap, cur, hσ, h3, (hk g' (by rw [hσ]; simp [blkOf, hc0])).trans h4, h5, h6⟩⟩, RL.mono hle _ _ hR, ho, hsz, hun, fun g hg => ⟨(hF g hg).1, hO g (hF g hg).2⟩⟩
  | slo sz ty rows =>
    simp only [BRel] at hx ⊢
    rcases hx with ⟨vs, hown, hR, ho, hsz, hun, hF⟩ | h2
    case inr => exact .inr h2
    rcases hown.2 with ⟨hσ, hn⟩ | ⟨g', cap, cur, hσ, h3, h4, h5, h6⟩
    · exact .inr ⟨List.eq_nil_of_length_eq_zero hn, hsz, none, hσ⟩
    · by_cases hc0 : cap = 0
      · have hn : rows.length = 0 := by omega
        exact .inr ⟨List.eq_nil_of_length_eq_zero hn, hsz, _, by rw [hσ, hn, hc0]⟩
      · exact .inl ⟨vs, ⟨hown.1, .inr ⟨g', cap, cur, hσ, h3, (hk g' (by rw [hσ]; simp [blkOf, hc0])).trans h4, h5, h6⟩⟩, RL.mono hle _ _ hR, ho, hsz, hun, fun g hg => ⟨(hF g hg).1, hO g (hF g hg).2⟩⟩
  | obj o =>
    simp only [BRel] at hx ⊢
    obtain ⟨k, hσ, hh, hc, hF, hOk⟩ := hx
    exact ⟨k, hσ, (hk k (by rw [hσ]; rfl)).trans hh, hc, hF, hO k hOk⟩
  | loop st pend fn tm nt ps assign body d =>
    simp only [BRel] at hx ⊢
    obtain ⟨k, r, hσ, hh, h1, h2, h3, h4, h5, h6, h7, h8, ⟨h9, h10⟩, hF, hOk⟩ := hx
    exact ⟨k, r, hσ, (hk k (by rw [hσ]; rfl)).trans hh, h1, h2, h3, h4, fun t => R.mono hle _ _ (h5 t), h6, h7, h8, ⟨hle.D d h9, by rw [hle.σ d h9]; exact h10⟩, hF, hO k hOk⟩
  | map ks vs =>
    simp only [BRel] at hx ⊢
    obtain ⟨k, arr, clk, hσ, hh, h1, h2, hF, hOk⟩ := hx
    exact ⟨k, arr, clk, hσ, (hk k (by rw [hσ]; rfl)).trans hh, RL.mono hle _ _ h1, RL.mono hle _ _ h2, hF, hO k hOk⟩

/-- A header of a row of the call's own, or one without room. -/
def ownsZ (w : World) (e : TypeId) (size : Nat) (v : Value) (n : Nat) (xs : List Value) : Prop :=
  w.ownsRow 0 e size v n xs ∨ (n = 0 ∧ xs = [] ∧ ∃ ad, v = .slice ad 0 0)
theorem append_owns0 {P : Program} (w : World) (t ty e : TypeId) (i : TypeInfo) (z : Value) (ht : P.underlying t = some (.slice e)) (hi : P.info? e = some i) (hz : i.zero = some z)
    (hzs : z.cells.size = i.size) (hsz : 0 < i.size) (v : Value) (n : Nat) (xs : List Value) (hown : w.ownsRow 0 e i.size v n xs)
    (ad : Option Addr) (m c : Nat) (news : List Value) (hl : news.length = m * i.size) (hnews : ∀ j u, news[j]? = some u → ∃ a, ad = some a ∧ w.cell? (a.add j) = some u) (h1 : ∀ u ∈ news, u.oneCell' = true)
    (h63 : n + m ≤ maxLen) (hbytes : (n + m) * i.bytes ≤ 140737488355328) :
    ∃ v' w', (Builtin.append_ #[t, t] ty #[v, .slice ad m c]).run P w = .ok v' w' ∧ w'.ownsRow 0 e i.size v' (n + m) (xs ++ news) ∧ w.grownBy w' v.ownBlock ∧ w.drawn ≤ w'.drawn ∧
      (blkOf v' = blkOf v ∨ ∀ g, blkOf v' = some g → w.heap.size ≤ g) := by
  have hsmall : n + m ≤ 9223372036854775807 := by simp only [maxLen] at h63; omega
  by_cases hm : m = 0
  · subst hm
    have hn : news = [] := List.eq_nil_of_length_eq_zero (by simpa using hl)
    subst hn
    have hf : (Builtin.firstCells i.size 0 (.slice ad 0 c)).run P w = .ok #[] w := by
      cases ad <;> simp [Builtin.firstCells, loadCells, loadCellsFrom]
    refine ⟨v, w, ?_, by simpa using hown, ⟨rfl, rfl, rfl, Nat.le_refl _, fun _ _ _ => rfl⟩, Nat.le_refl _, .inl rfl⟩
    rcases hown.2 with ⟨rfl, rfl⟩ | ⟨g, cap, cur, rfl, hbg, hg, hnc, _⟩
    · simp [Builtin.append_, run_underlying ht, sizeOf, typeInfo, hi, Builtin.lenOf, hf]
    · simp [Builtin.append_, run_underlying ht, sizeOf, typeInfo, hi, Builtin.lenOf, hf, hnc, storeCells]
  · have hpos : 0 < news.length := by rw [hl]; exact Nat.mul_pos (by omega) hsz
    obtain ⟨a, rfl, _⟩ := hnews 0 _ (List.getElem?_eq_getElem hpos)
    have hnews' : ∀ j u, news[j]? = some u → w.cell? (a.add j) = some u := fun j u hu => by
      obtain ⟨a', e, h⟩ := hnews j u hu
      cases e
      exact h
    have hlen : (xs ++ news).length = (n + m) * i.size := by rw [List.length_append, hown.1, hl, Nat.add_mul]
    have grown : ∀ (old : Nat), old < n + m → ∀ (row : Option Nat),
        (w.drew.alloc (.cells (xs.toArray ++ news.toArray ++ Builtin.zeroCells z.cells (grownCap w (n + m) old e - (n + m))) e)).ownsRow 0 e i.size
          (.slice (some ⟨w.heap.size, 0, none⟩) (n + m) (grownCap w (n + m) old e)) (n + m) (xs ++ news) ∧
        w.grownBy (w.drew.alloc (.cells (xs.toArray ++ news.toArray ++ Builtin.zeroCells z.cells (grownCap w (n + m) old e - (n + m))) e)) row := by
      intro old ho row
      have hge := grownCap_ge w (n + m) old e
      have hcm : grownCap w (n + m) old e ≤ maxLen := grownCap_le_maxLen w (n + m) old e h63
      refine ⟨⟨hlen, .inr ⟨w.heap.size, _, _, rfl, Nat.zero_le _, heap_alloc_new w.drew _, hge, hcm, ?_, ?_⟩⟩, ⟨rfl, rfl, rfl, by simp, fun k hk _ => heap_alloc_old w.drew _ k hk⟩⟩
      · simp only [Array.size_append, List.size_toArray, size_zeroCells, hzs, hown.1, hl, ← Nat.add_mul]
        congr 1
        omega
      · simp only [Array.toList_append, List.append_assoc]
        rw [← List.append_assoc, ← hlen]
        exact List.take_left
    rcases hown.2 with ⟨rfl, rfl⟩ | ⟨g, cap, cur, rfl, hbg, hg, hnc, hcm, hcs, htake⟩
    · have hx : xs = [] := List.eq_nil_of_length_eq_zero (by simpa using hown.1)
      subst hx
      have hr := run_append_nil (P := P) w t ty e i z ht hi hz a m c news hl hnews' (by omega) (by omega) (by have hb := hbytes; simp only [Nat.zero_add] at hb; omega)
      have hgr := grown 0 (by omega) (Value.ownBlock (.slice none 0 0))
      simp only [Nat.zero_add, List.nil_append, Array.empty_append] at hgr ⊢
      refine ⟨_, _, hr, hgr.1, hgr.2, Nat.le_succ _, .inr fun g hg => ?_⟩
      simp only [blkOf] at hg
      split at hg
      · cases hg
      · simp only [Option.some.injEq] at hg
        omega
    · by_cases hroom : n + m ≤ cap
      · have hfit : n * i.size + news.length ≤ cur.size := by rw [hl, hcs, ← Nat.add_mul]; exact Nat.mul_le_mul_right _ hroom
        have hr := run_append_room (P := P) w t ty e i ht hi g n cap cur hg a m c news hl hnews' h1 hroom hfit
        refine ⟨_, _, hr, ⟨hlen, .inr ⟨g, cap, _, rfl, hbg, setRow_heap w g cur _ e _ hg, hroom, hcm, ?_, ?_⟩⟩, ⟨rfl, rfl, rfl, by simp, fun k _ hk => setRow_other w g k _ (fun e => hk (by simp [Value.ownBlock, e]))⟩, Nat.le_refl _, .inl rfl⟩
        · simp only [List.size_toArray, List.length_append, List.length_take, List.length_drop, Array.length_toList]
          omega
        · rw [htake, ← hlen]
          exact List.take_left
      · have holds : ∀ j u, xs[j]? = some u → w.cell? ((⟨g, 0, none⟩ : Addr).add j) = some u := hown.cells (g := g) rfl
        have hr := run_append_grow (P := P) w t ty e i z ht hi hz ⟨g, 0, none⟩ n cap xs hown.1 holds a m c news hl hnews' (by omega) (by omega) (growslice_fits (by omega) hbytes)
        have hgr := grown cap (by omega) (Value.ownBlock (.slice (some ⟨g, 0, none⟩) n cap))
        refine ⟨_, _, hr, hgr.1, hgr.2, Nat.le_succ _, .inr fun g hg => ?_⟩
        simp only [blkOf] at hg
        split at hg
        · cases hg
        · simp only [Option.some.injEq] at hg
          omega


theorem append_zero {P : Program} (w : World) (t ty e : TypeId) (i : TypeInfo) (z : Value) (ht : P.underlying t = some (.slice e)) (hi : P.info? e = some i) (hz : i.zero = some z)
    (hzs : z.cells.size = i.size) (hsz : 0 < i.size) (ad0 : Option Addr)
    (ad : Option Addr) (m c : Nat) (news : List Value) (hl : news.length = m * i.size) (hnews : ∀ j u, news[j]? = some u → ∃ a, ad = some a ∧ w.cell? (a.add j) = some u) (h1 : ∀ u ∈ news, u.oneCell' = true)
    (h63 : 0 + m ≤ maxLen) (hbytes : (0 + m) * i.bytes ≤ 140737488355328) :
    ∃ v' w', (Builtin.append_ #[t, t] ty #[.slice ad0 0 0, .slice ad m c]).run P w = .ok v' w' ∧ ownsZ w' e i.size v' (0 + m) ([] ++ news) ∧ (∀ k, k < w.heap.size → blkOf (.slice ad0 0 0) ≠ some k → w'.heap[k]? = w.heap[k]?) ∧
      (w'.os = w.os ∧ w'.tape = w.tape ∧ w'.output = w.output ∧ w.heap.size ≤ w'.heap.size ∧ w.drawn ≤ w'.drawn) ∧
      (blkOf v' = blkOf (.slice ad0 0 0) ∨ ∀ g, blkOf v' = some g → w.heap.size ≤ g) := by
  cases ad0 with
  | none =>
    obtain ⟨v', w', h1', h2, h3, hd, h4⟩ := append_owns0 w t ty e i z ht hi hz hzs hsz (.slice none 0 0) 0 [] (World.ownsRow_nil _ _ _ _) ad m c news hl hnews h1 h63 hbytes
    exact ⟨v', w', h1', .inl h2, fun k hk _ => h3.block k hk (by simp [Value.ownBlock]), ⟨h3.os, h3.tape, h3.output, h3.size, hd⟩, h4⟩
  | some a0 =>
    by_cases hm : m = 0
    · subst hm
      have hn : news = [] := List.eq_nil_of_length_eq_zero (by simpa using hl)
      subst hn
      have hf : (Builtin.firstCells i.size 0 (.slice ad 0 c)).run P w = .ok #[] w := by
        cases ad <;> simp [Builtin.firstCells, loadCells, loadCellsFrom]
      refine ⟨.slice (some a0) 0 0, w, ?_, .inr ⟨rfl, rfl, _, rfl⟩, fun _ _ _ => rfl, ⟨rfl, rfl, rfl, Nat.le_refl _, Nat.le_refl _⟩, .inl rfl⟩
      simp [Builtin.append_, run_underlying ht, sizeOf, typeInfo, hi, Builtin.lenOf, hf, storeCells]
    · have hpos : 0 < news.length := by rw [hl]; exact Nat.mul_pos (by omega) hsz
      obtain ⟨a, rfl, _⟩ := hnews 0 _ (List.getElem?_eq_getElem hpos)
      have hnews' : ∀ j u, news[j]? = some u → w.cell? (a.add j) = some u := fun j u hu => by
        obtain ⟨a', e, h⟩ := hnews j u hu
        cases e
        exact h
      have hsmall : 0 + m ≤ 9223372036854775807 := by simp only [maxLen] at h63; omega
      have hr := run_append_grow (P := P) w t ty e i z ht hi hz a0 0 0 [] (by simp) (by simp) a m c news hl hnews' (by omega) (by omega) (growslice_fits (by omega) hbytes)
      have hge := grownCap_ge w (0 + m) 0 e
      have hcm : grownCap w (0 + m) 0 e ≤ maxLen := grownCap_le_maxLen w (0 + m) 0 e h63
      refine ⟨_, _, hr, .inl ⟨by simpa using hl, .inr ⟨w.heap.size, _, _, rfl, Nat.zero_le _, heap_alloc_new w.drew _, hge, hcm, ?_, ?_⟩⟩, fun k hk _ => heap_alloc_old w.drew _ k hk, ⟨rfl, rfl, rfl, by simp, Nat.le_succ _⟩, .inr fun g hg => ?_⟩
      · simp only [Array.size_append, List.size_toArray, size_zeroCells, hzs, hl, List.length_nil, ← Nat.add_mul]
        rw [Nat.zero_add, ← Nat.add_mul]
        congr 1
        omega
      · simp
        rw [← hl]
        exact List.take_left
      · simp only [blkOf] at hg
        split at hg
        · cases hg
        · simp only [Option.some.injEq] at hg
          omega

theorem append_owns {P : Program} (w : World) (t ty e : TypeId) (i : TypeInfo) (z : Value) (ht : P.underlying t = some (.slice e)) (hi : P.info? e = some i) (hz : i.zero = some z)
    (hzs : z.cells.size = i.size) (hsz : 0 < i.size) (v : Value) (n : Nat) (xs : List Value) (hown : ownsZ w e i.size v n xs)
    (ad : Option Addr) (m c : Nat) (news : List Value) (hl : news.length = m * i.size) (hnews : ∀ j u, news[j]? = some u → ∃ a, ad = some a ∧ w.cell? (a.add j) = some u) (h1 : ∀ u ∈ news, u.oneCell' = true)
    (h63 : n + m ≤ maxLen) (hbytes : (n + m) * i.bytes ≤ 140737488355328) :
    ∃ v' w', (Builtin.append_ #[t, t] ty #[v, .slice ad m c]).run P w = .ok v' w' ∧ ownsZ w' e i.size v' (n + m) (xs ++ news) ∧ (∀ k, k < w.heap.size → blkOf v ≠ some k → w'.heap[k]? = w.heap[k]?) ∧
      (w'.os = w.os ∧ w'.tape = w.tape ∧ w'.output = w.output ∧ w.heap.size ≤ w'.heap.size ∧ w.drawn ≤ w'.drawn) ∧
      (blkOf v' = blkOf v ∨ ∀ g, blkOf v' = some g → w.heap.size ≤ g) := by
  rcases hown with hown | ⟨rfl, rfl, ad0, rfl⟩
  · -- a header without room reads as one of no row
    by_cases hz0 : ∃ ad0, v = .slice ad0 0 0 ∧ ad0 ≠ none
    · obtain ⟨ad0, rfl, hne⟩ := hz0
      have hn : n = 0 := by
        rcases hown.2 with ⟨h, h2⟩ | ⟨g, cap, cur, h, _, _, h5, _⟩
        · exact h2
        · simp only [Value.slice.injEq] at h; omega
      subst hn
      have hx : xs = [] := List.eq_nil_of_length_eq_zero (by simpa using hown.1)
      subst hx
      exact append_zero w t ty e i z ht hi hz hzs hsz ad0 ad m c news hl hnews h1 h63 hbytes
    · obtain ⟨v', w', h1', h2, h3, hd, h4⟩ := append_owns0 w t ty e i z ht hi hz hzs hsz v n xs hown ad m c news hl hnews h1 h63 hbytes
      refine ⟨v', w', h1', .inl h2, fun k hk hne => h3.block k hk (fun e => hne ?_), ⟨h3.os, h3.tape, h3.output, h3.size, hd⟩, h4⟩
      rcases hown.2 with ⟨rfl, _⟩ | ⟨g, cap, cur, rfl, _⟩
      · simp [Value.ownBlock] at e
      · simp only [Value.ownBlock, Option.some.injEq] at e
        subst e
        by_cases hc0 : cap = 0
        · exfalso
          apply hz0
          have hn : n = 0 := by
            rcases hown.2 with ⟨h, h2⟩ | ⟨g', cap', cur', h, _, _, h5, _⟩
            · exact h2
            · simp only [Value.slice.injEq] at h; omega
          exact ⟨_, by rw [hn, hc0], by simp⟩
        · simp [blkOf, hc0]
  · exact append_zero w t ty e i z ht hi hz hzs hsz ad0 ad m c news hl hnews h1 h63 hbytes
/-- What is appended, where it may name blocks of the call's own. -/
def srcO (hp : Nat → Option Blk) : V → Option (Nat × List (List V))
  | .own b => match hp b with
    | some (.slo sz _ rows) => some (sz, rows)
    | _ => none
  | _ => none
/-- The rows that a value leads to. -/
def SrcAt (E : Env) (u : Value) (sz : Nat) (rows : List (List V)) : Prop :=
  ∃ ad c news, u = .slice ad rows.length c ∧ news.length = rows.length * sz ∧ RL E rows.flatten news ∧ (∀ j u, news[j]? = some u → ∃ a, ad = some a ∧ E.w.cell? (a.add j) = some u) ∧ (∀ u ∈ news, u.oneCell' = true) ∧
      (∀ r ∈ rows, r.length = sz ∧ ∀ c ∈ r, anyV c)
theorem srcO_sound {F : Nat → Prop} {E : Env} {hp : Nat → Option Blk} (H : HRel F E hp) {x : V} {u : Value} (hx : R E x u) {sz : Nat} {rows : List (List V)} (h : srcO hp x = some (sz, rows)) : SrcAt E u sz rows := by
  unfold SrcAt
  cases x with
  | own b =>
    simp only [srcO] at h
    split at h
    · rename_i sz' ty rows' hbk
      simp only [Option.some.injEq, Prod.mk.injEq] at h
      obtain ⟨rfl, rfl⟩ := h
      simp only [R] at hx
      obtain ⟨hD, rfl, _⟩ := hx
      rcases (H.blk b _ hbk).2 with ⟨vs, hown, hR, h1, _, hun, _⟩ | ⟨h0, _, ad0, hσ⟩
      case inr => subst h0; exact ⟨ad0, 0, [], hσ, by simp, by simp [RL], by simp, by simp, by simp⟩
      rcases hown.2 with ⟨hv, hn0⟩ | ⟨g, cap, cur, hv, _⟩
      · have hvs : vs = [] := List.eq_nil_of_length_eq_zero (by rw [hown.1, hn0]; simp)
        subst hvs
        exact ⟨none, 0, [], by rw [hv, hn0], by rw [hn0]; simp, hR, by simp, by simp, hun⟩
      · exact ⟨_, cap, vs, hv, hown.1, hR, fun j u hu => ⟨_, rfl, (hown.cells (g := g) (by rw [hv]; rfl)) j u hu⟩, h1, hun⟩
    · exact absurd h (by simp)
  | _ => simp [srcO] at h
end Go.Proofs.YtbnjijffkjcmcaaDoor.AL
namespace Go.Proofs.YtbnjijffkjcmcaaDoor.AL
open Go
/-! ### Calls of functions over plain values -/
structure Res where
  v : V
  bs : List Blk := []

def Res.hp (r : Res) : Nat → Option Blk := fun b => r.bs[b]?

/-- How a call may end. -/
def endX (R : Value → World → Prop) (X : List PanicEntry → World → Prop) : Ending → World → Prop
  | .returned v, w => R v w
  | .panicked ch, w => X ch w
  | .outgrown, _ => False
theorem endX_mono {R R' : Value → World → Prop} {X X' : List PanicEntry → World → Prop} (h : ∀ v w, R v w → R' v w) (k : ∀ c w, X c w → X' c w) : ∀ e w, endX R X e w → endX R' X' e w
  | .returned v, w, x => h v w x
  | .panicked ch, w, x => k ch w x
  | .outgrown, _, x => x
/-- What follows on an operation that calls. -/
def NextX (P : Program) (R : Value → World → Prop) (X : List PanicEntry → World → Prop) : Result Next → Prop
  | .ok (.value v) w => R v w
  | .ok (.enter f args) w => Calls P f args w (endX R X)
  | .ok (.round l f tmps assign body) w => RoundIn (FR none) 0 P l f tmps assign body w (endX R X)
  | _ => False
theorem NextX.mono {P : Program} {R R' : Value → World → Prop} {X X' : List PanicEntry → World → Prop} (h : ∀ v w, R v w → R' v w) (k : ∀ c w, X c w → X' c w) {r : Result Next} (x : NextX P R X r) : NextX P R' X' r := by
  cases r with
  | halt e w => exact x.elim
  | ok n w =>
    cases n with
    | value v => exact h v w x
    | enter f args => exact Calls.mono x (endX_mono h k)
    | round l f tmps assign body => exact RoundIn.mono x (endX_mono h k)
    | _ => exact x.elim
/-- A call of function g. -/
def CalledX (P : Program) (g : FuncId) (us : List Value) (w : World) (R : Value → World → Prop) (X : List PanicEntry → World → Prop) : Prop :=
  NextX P R X ((callFunc g us.toArray).run P w)

/-- What stands behind a call. -/
structure Post (E : Env) (r : Res) (v : Value) (E' : Env) : Prop where
  D : ∀ b, E'.D b → b < r.bs.length
  R : R E' r.v v
  hp : HRel (fun g => g < E.w.heap.size) E' r.hp
  ev : Ev (fun g => g < E.w.heap.size) E.w E'.w
  O : ∀ g, g < E.w.heap.size → (E'.O g ↔ E.O g)
  Oz : ∀ g, E'.O g → g < E'.w.heap.size

/-- Function f, called with arguments that name no block, returns r. -/
def Runs (P : Program) [Gl P] (f : FuncId) (args : List V) (r : Res) : Prop :=
  ∀ (E : Env) (vs : List Value), (∀ b, ¬ E.D b) → (∀ g, E.O g → g < E.w.heap.size) → GOK P E → RL E args vs →
    CalledX P f vs E.w (fun v w' => ∃ E', E'.w = w' ∧ Post E r v E') (fun _ _ => False)

mutual
def V.sh (k : Nat) : V → V
  | .own b => .own (b + k)
  | .ptr b o => .ptr (b + k) o
  | .eptr b s i o => .eptr (b + k) s i o
  | .agg cs => .agg (shL k cs)
  | .tup cs => .tup (shL k cs)
  | .fn f fi cs => .fn f (shL k fi) (shL k cs)
  | .yld b => .yld (b + k)
  | .mp b => .mp (b + k)
  | .mrd ks vs => .mrd ks vs
  | .iface t v => .iface t (v.sh k)
  | .int q n => .int q n
  | .bool x => .bool x
  | .str s => .str s
  | .nilp => .nilp
  | .nils => .nils
  | .nilfn => .nilfn
  | .nilif => .nilif
  | .nilm => .nilm
  | .bany => .bany
  | .iany k => .iany k
  | .rd sz rows => .rd sz rows
  | .rptr r o => .rptr r o
  | .junk => .junk
def shL (k : Nat) : List V → List V
  | [] => []
  | c :: cs => c.sh k :: shL k cs
end
def Blk.sh (k : Nat) : Blk → Blk
  | .box ty cells => .box ty (shL k cells)
  | .sl sz ty rows => .sl sz ty rows
  | .slo sz ty rows => .slo sz ty (rows.map (shL k))
  | .obj o => .obj o
  | .loop st pend fn tm nt ps assign body d => .loop st pend fn (fun t => (tm t).sh k) nt ps assign body (d + k)
  | .map ks vs => .map (shL k ks) (shL k vs)
mutual
/-- Leads to no memory, but for the blocks that it names. -/
def V.closed : V → Bool
  | .rd _ _ | .rptr _ _ | .mrd _ _ => false
  | .agg cs => closedL cs
  | .tup cs => closedL cs
  | .fn _ fi cs => closedL fi && closedL cs
  | .iface _ v => v.closed
  | _ => true
def closedL : List V → Bool
  | [] => true
  | c :: cs => c.closed && closedL cs
end
def V.scal : V → Bool
  | .int _ _ | .bool _ | .str _ | .nilp | .nils | .nilfn | .nilif | .nilm => true
  | _ => false
def Blk.closed : Blk → Prop
  | .box _ cells => closedL cells = true
  | .sl _ _ rows => ∀ r ∈ rows, ∀ c ∈ r, c.scal = true
  | .slo _ _ rows => ∀ r ∈ rows, closedL r = true
  | .obj _ => True
  | .loop _ _ _ tm _ _ _ _ _ => ∀ t, (tm t).closed = true
  | .map ks vs => closedL ks = true ∧ closedL vs = true

/-- What an argument reads as in the callee. -/
def V.exp1 (hp : Nat → Option Blk) : V → V
  | .own b => match hp b with
    | some (.sl sz _ rows) => .rd sz rows
    | _ => .own b
  | x => x
def V.exp (hp : Nat → Option Blk) : V → V
  | .own b => match hp b with
    | some (.sl sz _ rows) => .rd sz rows
    | _ => .own b
  | .agg cs => .agg (cs.map (V.exp1 hp))
  | x => x

structure Env.leSh (k : Nat) (E E' : Env) : Prop where
  D : ∀ x, E.D x → E'.D (x + k)
  σ : ∀ x, E.D x → E'.σ (x + k) = E.σ x
  m : E.le0 E'
mutual
theorem R.sh {k : Nat} {E E' : Env} (h : E.leSh k E') : ∀ (x : V) (v : Value), R E x v → R E' (x.sh k) v
  | .int _ _, v, hv => by simpa only [R, V.sh] using hv
  | .bool _, v, hv => by simpa only [R, V.sh] using hv
  | .str _, v, hv => by simpa only [R, V.sh] using hv
  | .nilp, v, hv => by simpa only [R, V.sh] using hv
  | .nils, v, hv => by simpa only [R, V.sh] using hv
  | .nilfn, v, hv => by simpa only [R, V.sh] using hv
  | .nilif, v, hv => by simpa only [R, V.sh] using hv
  | .nilm, v, hv => by simpa only [R, V.sh] using hv
  | .bany, v, hv => by simpa only [R, V.sh] using hv
  | .iany k, v, hv => by simpa only [R, V.sh] using hv
  | .rd sz rows, v, hv => by simp only [V.sh]; exact R.mono0 h.m _ _ rfl hv
  | .rptr row off, v, hv => by simp only [V.sh]; exact R.mono0 h.m _ _ rfl hv
  | .mrd ks vs, v, hv => by simp only [V.sh]; exact R.mono0 h.m _ _ rfl hv
  | .yld x, v, hv => by
    simp only [R, V.sh] at hv ⊢
    exact ⟨h.D x hv.1, by rw [h.σ x hv.1]; exact hv.2⟩
  | .mp x, v, hv => by
    simp only [R, V.sh] at hv ⊢
    exact ⟨h.D x hv.1, by rw [h.σ x hv.1]; exact hv.2⟩
  | .own x, v, hv => by
    simp only [R, V.sh] at hv ⊢
    exact ⟨h.D x hv.1, by rw [h.σ x hv.1]; exact hv.2.1, hv.2.2⟩
  | .ptr x off, v, hv => by
    simp only [R, V.sh] at hv ⊢
    exact ⟨h.D x hv.1, by rw [h.σ x hv.1]; exact hv.2⟩
  | .eptr x sz i off, v, hv => by
    simp only [R, V.sh] at hv ⊢
    exact ⟨h.D x hv.1, by rw [h.σ x hv.1]; exact hv.2⟩
  | .fn f fi caps, v, hv => by
    simp only [R, V.sh] at hv ⊢
    obtain ⟨us, vs, rfl, hr, hr2⟩ := hv
    exact ⟨us, vs, rfl, RL.sh h fi us hr, RL.sh h caps vs hr2⟩
  | .iface t x, v, hv => by
    simp only [R, V.sh] at hv ⊢
    obtain ⟨u, rfl, hr⟩ := hv
    exact ⟨u, rfl, R.sh h x u hr⟩
  | .agg cs, v, hv => by
    simp only [R, V.sh] at hv ⊢
    obtain ⟨vs, rfl, hr⟩ := hv
    exact ⟨vs, rfl, RL.sh h cs vs hr⟩
  | .tup cs, v, hv => by
    simp only [R, V.sh] at hv ⊢
    obtain ⟨vs, rfl, hr⟩ := hv
    exact ⟨vs, rfl, RL.sh h cs vs hr⟩
  | .junk, v, hv => by simp only [R, V.sh]
theorem RL.sh {k : Nat} {E E' : Env} (h : E.leSh k E') : ∀ (cs : List V) (vs : List Value), RL E cs vs → RL E' (shL k cs) vs
  | [], vs, hv => by simpa only [RL, shL] using hv
  | c :: cs, vs, hv => by
    simp only [RL, shL] at hv ⊢
    obtain ⟨v, vs', rfl, h1, h2⟩ := hv
    exact ⟨v, vs', rfl, R.sh h c v h1, RL.sh h cs vs' h2⟩
end
/-- The same, of a value that leads to no memory. -/
structure Env.leShC (k : Nat) (E E' : Env) : Prop where
  D : ∀ x, E.D x → E'.D (x + k)
  σ : ∀ x, E.D x → E'.σ (x + k) = E.σ x
mutual
theorem R.shC {k : Nat} {E E' : Env} (h : E.leShC k E') : ∀ (x : V) (v : Value), x.closed = true → R E x v → R E' (x.sh k) v
  | .int _ _, v, _, hv => by simpa only [R, V.sh] using hv
  | .bool _, v, _, hv => by simpa only [R, V.sh] using hv
  | .str _, v, _, hv => by simpa only [R, V.sh] using hv
  | .nilp, v, _, hv => by simpa only [R, V.sh] using hv
  | .nils, v, _, hv => by simpa only [R, V.sh] using hv
  | .nilfn, v, _, hv => by simpa only [R, V.sh] using hv
  | .nilif, v, _, hv => by simpa only [R, V.sh] using hv
  | .nilm, v, _, hv => by simpa only [R, V.sh] using hv
  | .bany, v, _, hv => by simpa only [R, V.sh] using hv
  | .iany k, v, _, hv => by simpa only [R, V.sh] using hv
  | .rd sz rows, v, hc, hv => by simp [V.closed] at hc
  | .rptr row off, v, hc, hv => by simp [V.closed] at hc
  | .own x, v, _, hv => by
    simp only [R, V.sh] at hv ⊢
    exact ⟨h.D x hv.1, by rw [h.σ x hv.1]; exact hv.2.1, hv.2.2⟩
  | .ptr x off, v, _, hv => by
    simp only [R, V.sh] at hv ⊢
    exact ⟨h.D x hv.1, by rw [h.σ x hv.1]; exact hv.2⟩
  | .eptr x sz i off, v, _, hv => by
    simp only [R, V.sh] at hv ⊢
    exact ⟨h.D x hv.1, by rw [h.σ x hv.1]; exact hv.2⟩
  | .mrd ks vs, v, hc, hv => by simp [V.closed] at hc
  | .yld x, v, _, hv => by
    simp only [R, V.sh] at hv ⊢
    exact ⟨h.D x hv.1, by rw [h.σ x hv.1]; exact hv.2⟩
  | .mp x, v, _, hv => by
    simp only [R, V.sh] at hv ⊢
    exact ⟨h.D x hv.1, by rw [h.σ x hv.1]; exact hv.2⟩
  | .fn f fi caps, v, hc, hv => by
    simp only [R, V.sh, V.closed, Bool.and_eq_true] at hv hc ⊢
    obtain ⟨us, vs, rfl, hr, hr2⟩ := hv
    exact ⟨us, vs, rfl, RL.shC h fi us hc.1 hr, RL.shC h caps vs hc.2 hr2⟩
  | .iface t x, v, hc, hv => by
    simp only [R, V.sh, V.closed] at hv hc ⊢
    obtain ⟨u, rfl, hr⟩ := hv
    exact ⟨u, rfl, R.shC h x u hc hr⟩
  | .agg cs, v, hc, hv => by
    simp only [R, V.sh, V.closed] at hv hc ⊢
    obtain ⟨vs, rfl, hr⟩ := hv
    exact ⟨vs, rfl, RL.shC h cs vs hc hr⟩
  | .tup cs, v, hc, hv => by
    simp only [R, V.sh, V.closed] at hv hc ⊢
    obtain ⟨vs, rfl, hr⟩ := hv
    exact ⟨vs, rfl, RL.shC h cs vs hc hr⟩
  | .junk, v, _, hv => by simp only [R, V.sh]
theorem RL.shC {k : Nat} {E E' : Env} (h : E.leShC k E') : ∀ (cs : List V) (vs : List Value), closedL cs = true → RL E cs vs → RL E' (shL k cs) vs
  | [], vs, _, hv => by simpa only [RL, shL] using hv
  | c :: cs, vs, hc, hv => by
    simp only [RL, shL, closedL, Bool.and_eq_true] at hv hc ⊢
    obtain ⟨v, vs', rfl, h1, h2⟩ := hv
    exact ⟨v, vs', rfl, R.shC h c v hc.1 h1, RL.shC h cs vs' hc.2 h2⟩
end
end Go.Proofs.YtbnjijffkjcmcaaDoor.AL
namespace Go.Proofs.YtbnjijffkjcmcaaDoor.AL
open Go
/-! ### One operation -/
def upd2 (hp : Nat → Option Blk) (b : Nat) (x : Option Blk) : Nat → Option Blk := fun y => if y = b then x else hp y
def St.put (s : St) (dst : Option Tmp) (v : V) : St :=
  match dst with
  | some d => { s with tm := upd s.tm d v }
  | none => s
def dstOk (s : St) (dst : Option Tmp) : Prop :=
  match dst with
  | some d => d < s.nt
  | none => True
def putHp (hp : Nat → Option Blk) : Nat → List Blk → (Nat → Option Blk)
  | _, [] => hp
  | n, x :: xs => putHp (upd hp n (some x)) (n + 1) xs
def St.setB (s : St) (b : Nat) (x : Blk) : St := { s with hp := upd s.hp b (some x) }
def St.rmB (s : St) (b : Nat) : St := { s with hp := upd s.hp b none }
def St.setN (s : St) (n : Nat) : St := { s with nx := n }
def St.putB (s : St) (n : Nat) (bs : List Blk) : St := { s with hp := putHp s.hp n bs }
/-- The caller's state behind a call. -/
def St.back (s s' : St) : St := { s with hp := s'.hp, nx := s'.nx }

def zlen (P : Program) (el : TypeId) : Nat :=
  match zcells P el with
  | some cs => cs.length
  | none => 0
def appOk (P : Program) (el sz n m : Nat) : Prop :=
  0 < sz ∧ sz = P.cellsOf el ∧ zlen P el = sz ∧ n + m ≤ 9223372036854775807 ∧ (n + m) * P.bytesOf el ≤ 140737488355328

/-- A call in a state, the caller's names kept. -/
def CallG (P : Program) [Gl P] (call : List Value → World → (Value → World → Prop) → (List PanicEntry → World → Prop) → Prop) (s : St) (E : Env) (F A : Nat → Prop) (us : List Value) (K X : V → St → Prop) : Prop :=
  call us E.w (fun v w' => ∃ E' s' x, E'.w = w' ∧ E.le E' ∧ ERel P F A E' s' ∧ (∀ b, E'.D b → b < s'.nx) ∧ R E' x v ∧ K x s' ∧ Ev F E.w w')
    (fun ch w' => ∃ E' s' x u, E'.w = w' ∧ E.le E' ∧ ERel P F A E' s' ∧ (∀ b, E'.D b → b < s'.nx) ∧ ch = [{ v := u, recovered := false }] ∧ R E' x u ∧ X x s' ∧ Ev F E.w w')
def CallW (P : Program) [Gl P] (g : FuncId) (s : St) (vs : List V) (K X : V → St → Prop) : Prop :=
  ∀ (F A : Nat → Prop) (E : Env) (us : List Value), ERel P F A E s → (∀ b, E.D b → b < s.nx) → RL E vs us → CallG P (CalledX P g) s E F A us K X
/-- A call of the yield function of the loop that block b records. -/
def CallY (P : Program) [Gl P] (b : Nat) (s : St) (vs : List V) (K X : V → St → Prop) : Prop :=
  ∀ (F A : Nat → Prop) (E : Env) (us : List Value) (g : Nat), ERel P F A E s → (∀ b, E.D b → b < s.nx) → RL E vs us → E.D b → E.σ b = .pointer (some ⟨g, 0, none⟩) →
    CallG P (fun us w R X => NextX P R X ((Instr.yield g us.toArray).run P w)) s E F A us K X
/-- What a call does, as a transformer. -/
abbrev Ct := List V → St → (V → St → Prop) → (V → St → Prop) → Prop
/-- What is known of calls. -/
structure Tab where
  R : FuncId → List V → Option Res
  C : FuncId → Option Ct
  Y : Option (Nat → Ct)
structure Tab.ok (P : Program) [Gl P] (T : Tab) : Prop where
  R : ∀ g args r, T.R g args = some r → Runs P g args r
  C : ∀ g C, T.C g = some C → ∀ vs s K X, C vs s K X → CallW P g s vs K X
  Y : ∀ Y, T.Y = some Y → ∀ b vs s K X, Y b vs s K X → CallY P b s vs K X

/-- What an operation gives, as a datum. -/
inductive OR where
  | val (c : Prop) (v : V)
  | new (c : Prop) (n : Nat) (b : Blk) (v : V)
  | store (c : Prop) (b : Nat) (x : Blk)
  | grow (c : Prop) (b n : Nat) (x : Blk)
  | call (c : Prop) (n : Nat) (bs : List Blk) (v : V)
  | panic (c : Prop) (v : V)
  | ctr (c : Prop) (f : (V → St → Prop) → (V → St → Prop) → Prop)
  | bad
/-- What an operation asks. -/
def orK (r : OR) (dst : Option Tmp) (s : St) (K : St → Prop) (X : V → St → Prop) : Prop :=
  match r with
  | .val c v => c ∧ K (s.put dst v)
  | .new c n b v => c ∧ K ((s.setB n b).put dst v)
  | .store c b x => c ∧ K ((s.setB b x).put dst .junk)
  | .grow c b n x => c ∧ K (((s.rmB b).setB n x).put dst (.own n))
  | .call c n bs v => c ∧ K ((s.putB n bs).put dst v)
  | .panic c v => c ∧ X v s
  | .ctr c f => c ∧ f (fun v s' => K ((s.back s').put dst v)) (fun v s' => X v (s.back s'))
  | .bad => False
def orQ (d : Prop) (n : Nat) : QR → OR
  | .val c v => .val (d ∧ c) v
  | .new c b => .new (d ∧ c) n b (newV n b)
  | .bad => .bad
def orC (d : Prop) (n : Nat) (x y : List V) : Option Res → OR
  | some r => .call (d ∧ r.bs.length ≤ 8 ∧ cleanL x = true ∧ (cleanL y = true ∨ (r.v.closed = true ∧ ∀ b ∈ r.bs, b.closed))) n (r.bs.map (Blk.sh n)) (r.v.sh n)
  | none => .bad
def orFC (T : Tab) (d : Prop) (n : Nat) (g : FuncId) (x y : List V) (s : St) : Option Ct → OR
  | some C => .ctr (d ∧ n = s.nx) (C y s)
  | none => orC d n x y (T.R g x)
def orY (d : Prop) (n b : Nat) (y : List V) (s : St) : Option (Nat → Ct) → OR
  | some Y => .ctr (d ∧ n = s.nx) (Y b y s)
  | none => .bad
def orF (T : Tab) (d : Prop) (n : Nat) (x y : List V) (s : St) : V → OR
  | .fn g fi caps => orFC T d n g (fi ++ x ++ caps) (fi ++ y ++ caps) s (T.C g)
  | .yld b => orY d n b y s T.Y
  | _ => .bad
def orA (P : Program) (d : Prop) (el : TypeId) (n : Nat) (hv : Nat → Option Blk) (x : V) (so : Option (Nat × List (List V))) : Option (Nat × List (List V)) → OR
  | none => match so with
    | none => .bad
    | some sr => match x with
      | .own b => match hv b with
        | some (.sl sz ty rows) => .grow (d ∧ (ty = el ∧ sr.1 = sz ∧ appOk P el sz rows.length sr.2.length)) b n (.slo sz ty (rows ++ sr.2))
        | some (.slo sz ty rows) => .grow (d ∧ (ty = el ∧ sr.1 = sz ∧ appOk P el sz rows.length sr.2.length)) b n (.slo sz ty (rows ++ sr.2))
        | _ => .bad
      | .nils => .new (d ∧ appOk P el sr.1 0 sr.2.length) n (.slo sr.1 el sr.2) (.own n)
      | _ => .bad
  | some sr => match x with
    | .own b => match hv b with
      | some (.sl sz ty rows) => .grow (d ∧ (ty = el ∧ sr.1 = sz ∧ appOk P el sz rows.length sr.2.length)) b n (.sl sz ty (rows ++ sr.2))
      | some (.slo sz ty rows) => .grow (d ∧ (ty = el ∧ sr.1 = sz ∧ appOk P el sz rows.length sr.2.length)) b n (.slo sz ty (rows ++ sr.2))
      | _ => .bad
    | .nils => .new (d ∧ appOk P el sr.1 0 sr.2.length) n (.sl sr.1 el sr.2) (.own n)
    | _ => .bad
def orL (d : Prop) : LR → OR
  | .store c b y => .store (d ∧ c) b y
  | .bad => .bad
def orV (d : Prop) : QR → OR
  | .val c v => .val (d ∧ c) v
  | _ => .bad
def orP : V → OR
  | .iface t v => .panic True (.iface t v)
  | _ => .bad
section
variable (P : Program) [Gl P]
def opR (T : Tab) (dst : Option Tmp) (n : Nat) (hv : Nat → Option Blk) (s : St) : Op → OR
  | .store t p x => orL (dstOk s dst) (lstore P hv (ev P s) t p x)
  | .mapUpdate t m k x => orL (dstOk s dst) (lmap P hv (ev P s) t m k x)
  | .panic x => orP (ev P s x)
  | .call c => match c.callee with
    | .value f => orF T (dstOk s dst) n (c.args.toList.map fun x => (ev P s x).exp hv) (c.args.toList.map (ev P s)) s (ev P s f)
    | .builtin .append => match c.args.toList with
      | [x, y] => match c.argTypes.toList with
        | [t, t'] => match P.underlying t with
          | some (.slice el) => orA P (dstOk s dst ∧ t' = t) el n hv (ev P s x) (srcO hv (ev P s y)) (srcRows (P.cellsOf el) hv (ev P s y))
          | _ => .bad
        | _ => .bad
      | _ => .bad
    | _ => orV (dstOk s dst) (qf P hv (ev P s) (.call c))
  | op => orQ (dstOk s dst) n (qf P hv (ev P s) op)
end

section
variable {P : Program} [Gl P] {X : Fr} {E : Env} {a : Act} {s : St}
theorem tmps_put {d : Nat} {u : Value} (hd : d < a.tmps.size) (t : Nat) : (a.put (some d) u).tmps.getD t undef = if t = d then u else a.tmps.getD t undef := by
  simp only [Act.put, Array.getD_eq_getD_getElem?]
  by_cases h : t = d
  · subst h
    simp [hd]
  · rw [if_neg h, Array.getElem?_setIfInBounds_ne (Ne.symm h)]
theorem ERel.cong {F A : Nat → Prop} {s s' : St} (h : ERel P F A E s) (e : s'.hp = s.hp) : ERel P F A E s' := ⟨by rw [e]; exact h.hp, h.gl, h.AO, h.Fz, h.OA, h.Oz⟩
theorem CRel.put (hs : CRel P X E a s) {dst : Option Tmp} (hd : dstOk s dst) {u : Value} {v : V} (hv : dst.isSome = true → R E v u) : CRel P X E (a.put dst u) (s.put dst v) := by
  cases dst with
  | none => exact hs
  | some d =>
    simp only [dstOk] at hd
    have hda : d < a.tmps.size := by rw [hs.nt]; exact hd
    refine ⟨hs.toERel.cong rfl, hs.top, hs.kp, hs.defers, by simpa [Act.put, St.put] using hs.nt, fun t => ?_⟩
    rw [tmps_put hda]
    simp only [St.put, upd]
    by_cases h : t = d
    · rw [if_pos h, if_pos h]; exact hv rfl
    · rw [if_neg h, if_neg h]; exact hs.tm t
theorem CRel.setN (hs : CRel P X E a s) (n : Nat) : CRel P X E a (s.setN n) := ⟨hs.toERel.cong rfl, hs.top, hs.kp, hs.defers, hs.nt, hs.tm⟩
/-- The world goes on, the names kept. -/
theorem CRel.next (hs : CRel P X E a s) {E' : Env} {s' : St} (hle : E.le E') (hE : ERel P X.F X.A E' s') (e1 : s'.tm = s.tm) (e2 : s'.nt = s.nt) (e3 : s'.top = s.top) (e4 : s'.df = s.df) (e5 : s'.kp = s.kp) : CRel P X E' a s' :=
  ⟨hE, by rw [e3]; exact hs.top, by rw [e5]; exact fun h => X.Km E E' hle (hs.kp h), by rw [e4]; exact hs.defers.mono hle, by rw [e2]; exact hs.nt, fun t => by rw [e1]; exact R.mono hle _ _ (hs.tm t)⟩
theorem ERel.grow {F A : Nat → Prop} (hs : ERel P F A E s) {E' : Env} (hG : Grows F E E') {s' : St} (hH : HRel F E' s'.hp) : ERel P F A E' s' :=
  ⟨hH, GOK.mono hG.le.le0 hs.gl, fun g hg => ⟨hG.O g (hs.AO g hg).1, (hs.AO g hg).2⟩, fun g hg => Nat.lt_of_lt_of_le (hs.Fz g hg) hG.le.size,
    fun g hO' hF => hs.OA g (hG.Oo g (hs.Fz g hF) hO') hF, fun g hO' => (hG.Oz g hO').elim (fun h => Nat.lt_of_lt_of_le (hs.Oz g h) hG.le.size) id⟩
theorem CRel.grow (hs : CRel P X E a s) {E' : Env} (hG : Grows X.F E E') {hp' : Nat → Option Blk} (hH : HRel X.F E' hp') : CRel P X E' a { s with hp := hp' } :=
  hs.next hG.le (hs.toERel.grow hG hH) rfl rfl rfl rfl rfl
end
end Go.Proofs.YtbnjijffkjcmcaaDoor.AL
namespace Go.Proofs.YtbnjijffkjcmcaaDoor.AL
open Go
section
variable {P : Program} [Gl P] {X : Fr} {E : Env} {a : Act} {s : St} {hv : Nat → Option Blk}

theorem HRel.sub {F : Nat → Prop} {hp hv : Nat → Option Blk} (H : HRel F E hp) (h : ∀ b x, hv b = some x → hp b = some x) : HRel F E hv :=
  ⟨fun b x hx => H.blk b x (h b x hx), fun b b' x x' g hx hx' => H.sep b b' x x' g (h b x hx) (h b' x' hx')⟩

/-- What an operation leaves. -/
def Goes (P : Program) [Gl P] (X : Fr) (E : Env) (nm m : Nat) (K : St → Prop) (a' : Act) (w' : World) : Prop :=
  ∃ E' s', E'.w = w' ∧ CRel P X E' a' s' ∧ K s' ∧ Ev X.F E.w w' ∧ ∀ b, E'.D b → E.D b ∨ (nm ≤ b ∧ b < nm + m)

theorem wpIn_FR {ρ : Option Nat} {o : Oper} {K : Act → World → Prop} {Q : Exit → Act → World → Prop} {w : World} (hnd : ∀ c, o.op ≠ .defer c) (h : o.uponIn (FR ρ) 0 P a K Q ((execOp a.eval o).run P w)) : o.wpIn (FR ρ) 0 P a w K Q :=
  ⟨fun _ _ => trivial, by rw [Oper.semAt_eq _ _ _ hnd]; exact h⟩
theorem callsIn_FR {ρ : Option Nat} {n : Nat} {f : FuncId} {args : Array Value} {w : World} {R : Ending → World → Prop} (h : Calls P f args w R) : CallsIn (FR ρ) n P f args w R :=
  ⟨trivial, fun cs _ => (callsIn_wide (n := n).2 h).2 cs (FR_room none _)⟩
theorem roundIn_FR {ρ ρ' : Option Nat} {n m : Nat} {l : Nat} {f : FuncId} {tmps : Array Value} {as bd : Code} {w : World} {R : Ending → World → Prop} (h : RoundIn (FR ρ) n P l f tmps as bd w R) : RoundIn (FR ρ') m P l f tmps as bd w R :=
  ⟨trivial, fun c cs _ => h.2 c cs (FR_room _ _)⟩
theorem NextX.upon {ρ : Option Nat} {o : Oper} {R : Value → World → Prop} {Xc : List PanicEntry → World → Prop} {K : Act → World → Prop} {Q : Exit → Act → World → Prop} {r : Result Next} (h : NextX P R Xc r)
    (hK : ∀ v w, R v w → K (a.put o.dst v) w) (hX : ∀ ch w, Xc ch w → Q (.panic ch) a w) : o.uponIn (FR ρ) 0 P a K Q r := by
  have conv : ∀ e w, endX R Xc e w → (match e, w with
      | .returned v, w'' => K (a.put o.dst v) w''
      | .panicked chain, w'' => Q (.panic chain) a w''
      | .outgrown, _ => LetsOut Q) := by
    intro e w he
    cases e with
    | returned v => exact hK v w he
    | panicked ch => exact hX ch w he
    | outgrown => exact he.elim
  cases r with
  | halt e w => exact h.elim
  | ok n w =>
    cases n with
    | value v => exact hK v w h
    | enter f args => exact ⟨fun hd => by simp [FR] at hd, callsIn_FR (Calls.mono h conv)⟩
    | round l f tmps assign body => exact ⟨fun hd => by simp [FR] at hd, roundIn_FR (RoundIn.mono h conv)⟩
    | _ => exact h.elim

theorem Goes.val {o : Oper} {nm m : Nat} {K : St → Prop} {Q : Exit → Act → World → Prop} (hnd : ∀ c, o.op ≠ .defer c) (hs : CRel P X E a s) (hd : dstOk s o.dst) {v : V} {u : Value} (hu : (execOp a.eval o).run P E.w = .ok (.value u) E.w) (hv : R E v u) (hK : K (s.put o.dst v)) :
    o.wpIn (FR X.ρ) 0 P a E.w (Goes P X E nm m K) Q := by
  refine wpIn_FR hnd ?_
  rw [hu]
  exact ⟨E, _, rfl, hs.put hd (fun _ => hv), hK, Ev.refl _ _, fun b hb => .inl hb⟩
theorem Goes.new {o : Oper} {nm m : Nat} {K : St → Prop} {Q : Exit → Act → World → Prop} (hnd : ∀ c, o.op ≠ .defer c) (hs : CRel P X E a s) (hd : dstOk s o.dst) {v : V} {u : Value} {E' : Env} {hp' : Nat → Option Blk} (hu : (execOp a.eval o).run P E.w = .ok (.value u) E'.w) (hv : R E' v u)
    (hG : Grows X.F E E') (hH : HRel X.F E' hp') (hD : ∀ b, E'.D b → E.D b ∨ (nm ≤ b ∧ b < nm + m)) (hK : K (({ s with hp := hp' } : St).put o.dst v)) :
    o.wpIn (FR X.ρ) 0 P a E.w (Goes P X E nm m K) Q := by
  refine wpIn_FR hnd ?_
  rw [hu]
  exact ⟨E', _, rfl, (hs.grow hG hH).put (by exact hd) (fun _ => hv), hK, hG.ev, hD⟩

theorem run_callOp {o : Oper} {c : Call} {x : Operand} {fi caps : List Value} {g : FuncId} (ho : o.op = .call c) (hc : c.callee = .value x) (hx : a.eval x = .func (.func g) fi.toArray caps.toArray) :
    execOp a.eval o = callFunc g ((fi ++ c.args.toList.map a.eval ++ caps).toArray) := by
  have hargs : (fi.toArray ++ c.args.map a.eval ++ caps.toArray) = (fi ++ c.args.toList.map a.eval ++ caps).toArray := by
    rw [← List.append_toArray, ← List.append_toArray, ← Array.toList_map, Array.toArray_toList]
  simp only [execOp, ho, resolve, hc, hx, Deferred.ofValue, pure_bind, invoke]
  rw [← hargs]

theorem exp1_clean : ∀ (cs : List V), cleanL cs = true → cs.map (V.exp1 hv) = cs
  | [], _ => rfl
  | c :: cs, h => by
    simp only [cleanL, Bool.and_eq_true] at h
    rw [List.map_cons, exp1_clean cs h.2]
    cases c with
    | own b => simp [V.clean] at h
    | _ => rfl
theorem R.exp1 (hs : CRel P X E a s) (hsub : ∀ b x, hv b = some x → s.hp b = some x) {E0 : Env} (hE0 : E0.w = E.w) (hO : ∀ g, E0.O g ↔ X.A g) (hm : E.le0 E0) {Y : V} {u : Value} (hx : R E Y u) (hc1 : (Y.exp1 hv).clean = true) : R E0 (Y.exp1 hv) u := by
  cases Y with
  | own b =>
    simp only [V.exp1] at hc1 ⊢
    split at hc1
    · rename_i sz ty rows hbk
      simp only [R] at hx ⊢
      obtain ⟨_, rfl', _⟩ := hx
      rw [rfl']
      rcases (hs.hp.blk b _ (hsub b _ hbk)).2 with ⟨vs, hown, hR, h1, hsz, hun, hF⟩ | ⟨h0, _, ad0, hσ0⟩
      case inr => subst h0; exact ⟨ad0, 0, hσ0, by simp, by simp, .inl rfl⟩
      by_cases hn0 : rows = []
      · subst hn0
        rcases hown.2 with ⟨hv0, _⟩ | ⟨g, cap, cur, hσ, _, hh, hcap, _⟩
        · exact ⟨none, 0, hv0, by simp, by simp, .inl rfl⟩
        · exact ⟨_, cap, hσ, by simp, by simp, .inl rfl⟩
      have hlen : 0 < rows.length := List.length_pos_iff.2 hn0
      rcases hown.2 with ⟨hv0, hn0⟩ | ⟨g, cap, cur, hσ, _, hh, hcap, hml, hcs, htk⟩
      · exact ⟨none, 0, by rw [hv0, hn0], by omega, by rw [hn0]; exact Nat.zero_le _, .inl (List.eq_nil_of_length_eq_zero hn0)⟩
      · refine ⟨_, cap, hσ, hcap, by omega, .inr ⟨g, 0, rfl, ?_, by rw [hE0]; exact (Array.getElem?_eq_some_iff.1 hh).1, hun, ?_⟩⟩
        · intro h
          have := hF g (by rw [hσ]; simp only [blkOf]; rw [if_neg (by omega)])
          exact this.1 (hs.AO g ((hO g).1 h)).2
        · have hR0 : RL E0 rows.flatten vs := RL.mono0 hm _ _ (fun c hc => by
            obtain ⟨r, hr, hcr⟩ := List.mem_flatten.1 hc
            exact (hun r hr).2 c hcr) hR
          refine RRows.of_list (sz := sz) hR0 (fun j u hu => ?_) h1
          have := hown.cells (g := g) (by rw [hσ]; rfl) j u hu
          rw [Addr.add_lit] at this
          rw [hE0]
          exact this
    · simp [V.clean] at hc1
  | _ => exact R.clean hm _ _ hc1 hx
theorem RL.exp1 (hs : CRel P X E a s) (hsub : ∀ b x, hv b = some x → s.hp b = some x) {E0 : Env} (hE0 : E0.w = E.w) (hO : ∀ g, E0.O g ↔ X.A g) (hm : E.le0 E0) : ∀ (cs : List V) (us : List Value), RL E cs us → cleanL (cs.map (V.exp1 hv)) = true → RL E0 (cs.map (V.exp1 hv)) us
  | [], us, h, _ => by simpa only [RL, List.map_nil] using h
  | c :: cs, us, h, hc => by
    simp only [List.map_cons, cleanL, Bool.and_eq_true] at hc
    simp only [RL, List.map_cons] at h ⊢
    obtain ⟨v, vs, rfl, h1, h2⟩ := h
    exact ⟨v, vs, rfl, R.exp1 hs hsub hE0 hO hm h1 hc.1, RL.exp1 hs hsub hE0 hO hm cs vs h2 hc.2⟩
theorem RL.exp (hs : CRel P X E a s) (hsub : ∀ b x, hv b = some x → s.hp b = some x) {E0 : Env} (hE0 : E0.w = E.w) (hO : ∀ g, E0.O g ↔ X.A g) :
    ∀ (xs : List Operand), cleanL (xs.map fun x => (ev P s x).exp hv) = true → RL E0 (xs.map fun x => (ev P s x).exp hv) (xs.map a.eval)
  | [], _ => by simp [RL]
  | x :: xs, hc => by
    simp only [List.map_cons, cleanL, Bool.and_eq_true] at hc ⊢
    simp only [RL]
    refine ⟨_, _, rfl, ?_, RL.exp hs hsub hE0 hO xs hc.2⟩
    have hx := hs.ev x
    have hm : E.le0 E0 := ⟨by rw [hE0]; exact Nat.le_refl _, fun g hg hg' => ⟨by rw [hE0], fun h => hg' ((hs.AO g ((hO g).1 h)).1)⟩⟩
    have hc1 := hc.1
    generalize ev P s x = Y at hx hc1 ⊢
    cases Y with
    | own b => exact R.exp1 hs hsub hE0 hO hm hx hc1
    | agg cs =>
      simp only [V.exp, V.clean, R] at hc1 hx ⊢
      obtain ⟨vs, hv0, hR⟩ := hx
      exact ⟨vs, hv0, RL.exp1 hs hsub hE0 hO hm cs vs hR hc1⟩
    | _ => exact R.clean hm _ _ hc1 hx

theorem putHp_other : ∀ (bs : List Blk) (n : Nat) (hp : Nat → Option Blk) (b : Nat), (b < n ∨ n + bs.length ≤ b) → putHp hp n bs b = hp b
  | [], n, hp, b, _ => rfl
  | x :: xs, n, hp, b, h => by
    simp only [putHp]
    simp only [List.length_cons] at h
    rw [putHp_other xs (n + 1) _ b (by omega), upd_other _ _ (by omega)]
theorem putHp_at : ∀ (bs : List Blk) (n : Nat) (hp : Nat → Option Blk) (i : Nat), i < bs.length → putHp hp n bs (n + i) = bs[i]?
  | [], n, hp, i, h => by simp at h
  | x :: xs, n, hp, 0, _ => by
    simp only [putHp]
    rw [putHp_other xs (n + 1) _ _ (by omega)]
    simp [upd]
  | x :: xs, n, hp, i + 1, h => by
    simp only [putHp]
    have := putHp_at xs (n + 1) (upd hp n (some x)) i (by simpa using h)
    rw [show n + (i + 1) = n + 1 + i by omega, this]
    simp

theorem RL.scal {E E' : Env} : ∀ (cs : List V) (vs : List Value), (∀ c ∈ cs, c.scal = true) → RL E cs vs → RL E' cs vs
  | [], vs, _, hv => by simpa only [RL] using hv
  | c :: cs, vs, hc, hv => by
    simp only [RL] at hv ⊢
    obtain ⟨v, vs', rfl, h1, h2⟩ := hv
    refine ⟨v, vs', rfl, ?_, RL.scal cs vs' (fun d hd => hc d (by simp [hd])) h2⟩
    have := hc c (by simp)
    cases c <;> simp_all [V.scal, R]

/-- The caller's environment behind a call that has brought n named blocks. -/
def Env.imp (E Er : Env) (nm n : Nat) : Env :=
  { w := Er.w, O := fun g => E.O g ∨ (Er.O g ∧ E.w.heap.size ≤ g), σ := fun b => if nm ≤ b ∧ b < nm + n then Er.σ (b - nm) else E.σ b, D := fun b => E.D b ∨ (nm ≤ b ∧ b < nm + n) }
theorem Env.imp_σ (E Er : Env) {nm n i : Nat} (hi : i < n) : (E.imp Er nm n).σ (i + nm) = Er.σ i := by
  simp only [Env.imp]
  rw [if_pos ⟨by omega, by omega⟩]
  congr 1
  omega

theorem shL_append (k : Nat) : ∀ (a b : List V), shL k (a ++ b) = shL k a ++ shL k b
  | [], b => rfl
  | c :: a, b => by simp only [List.cons_append, shL, shL_append k a b]
theorem shL_flatten (k : Nat) : ∀ (rows : List (List V)), shL k rows.flatten = (rows.map (shL k)).flatten
  | [] => rfl
  | r :: rows => by simp only [List.flatten_cons, List.map_cons, shL_append, shL_flatten k rows]
theorem shL_length (k : Nat) : ∀ (a : List V), (shL k a).length = a.length
  | [] => rfl
  | c :: a => by simp only [shL, List.length_cons, shL_length k a]
theorem closedL_append : ∀ {a b : List V}, closedL a = true → closedL b = true → closedL (a ++ b) = true
  | [], b, _, hb => hb
  | c :: a, b, ha, hb => by
    simp only [List.cons_append, closedL, Bool.and_eq_true] at ha ⊢
    exact ⟨ha.1, closedL_append ha.2 hb⟩
theorem closedL_flatten : ∀ {rows : List (List V)}, (∀ r ∈ rows, closedL r = true) → closedL rows.flatten = true
  | [], _ => rfl
  | r :: rows, h => by
    rw [List.flatten_cons]
    exact closedL_append (h r (by simp)) (closedL_flatten fun q hq => h q (by simp [hq]))
/-- A block that came back from a call. -/
theorem BRel.sh {F : Nat → Prop} {E E1 : Env} {k : Nat} {v : Value} {x : Blk} (hx : BRel (fun g => g < E.w.heap.size) E1 v x) (hF : ∀ g, F g → g < E.w.heap.size) {E' : Env} (hw : E'.w = E1.w) (hO : ∀ g, E.w.heap.size ≤ g → E1.O g → E'.O g)
    (hR : E1.leSh k E' ∨ (E1.leShC k E' ∧ x.closed)) : BRel F E' v (x.sh k) := by
  cases x with
  | box ty cells =>
    simp only [BRel, Blk.sh] at hx ⊢
    obtain ⟨g, arr, hσ, hh, hR1, h1, hF1, hO1⟩ := hx
    refine ⟨g, arr, hσ, by rw [hw]; exact hh, ?_, h1, fun h => hF1 (hF g h), hO g (Nat.le_of_not_lt hF1) hO1⟩
    rcases hR with hR | ⟨hR, hc⟩
    · exact RL.sh hR _ _ hR1
    · exact RL.shC hR _ _ hc hR1
  | sl sz ty rows =>
    simp only [BRel, Blk.sh] at hx ⊢
    rcases hx with ⟨vs, hown, hR1, h1, hsz, hun, hF1⟩ | hx
    case inr => exact .inr hx
    refine .inl ⟨vs, by rw [hw]; exact hown, ?_, h1, hsz, hun, fun g hg => ⟨fun h => (hF1 g hg).1 (hF g h), hO g (Nat.le_of_not_lt (hF1 g hg).1) (hF1 g hg).2⟩⟩
    rcases hR with hR | ⟨hR, hc⟩
    · exact RL.mono0 hR.m _ _ (fun c hc => by
        obtain ⟨r, hr, hcr⟩ := List.mem_flatten.1 hc
        exact (hun r hr).2 c hcr) hR1
    · exact RL.scal _ _ (fun c hcm => by
        obtain ⟨r, hr, hcr⟩ := List.mem_flatten.1 hcm
        exact hc r hr c hcr) hR1
  | slo sz ty rows =>
    simp only [BRel, Blk.sh] at hx ⊢
    rcases hx with ⟨vs, hown, hR1, h1, hsz, hun, hF1⟩ | ⟨e1, e2⟩
    case inr => exact .inr ⟨by rw [e1]; rfl, e2⟩
    refine .inl ⟨vs, by rw [hw, List.length_map]; exact hown, ?_, h1, hsz, fun r hr => ?_, fun g hg => ⟨fun h => (hF1 g hg).1 (hF g h), hO g (Nat.le_of_not_lt (hF1 g hg).1) (hF1 g hg).2⟩⟩
    · rw [← shL_flatten]
      rcases hR with hR | ⟨hR, hc⟩
      · exact RL.sh hR _ _ hR1
      · exact RL.shC hR _ _ (closedL_flatten hc) hR1
    · obtain ⟨r', hr', rfl⟩ := List.mem_map.1 hr
      have := hun r' hr'
      rw [shL_length]
      exact ⟨this.1, fun _ _ => trivial⟩
  | obj o =>
    simp only [BRel, Blk.sh] at hx ⊢
    obtain ⟨g, hσ, hh, hc, hF1, hO1⟩ := hx
    exact ⟨g, hσ, by rw [hw]; exact hh, hc, fun h => hF1 (hF g h), hO g (Nat.le_of_not_lt hF1) hO1⟩
  | loop st pend fn tm nt ps assign body d =>
    simp only [BRel, Blk.sh] at hx ⊢
    obtain ⟨g, r, hσ, hh, h1, h2, h3, h4, h5, h6, h7, h8, ⟨h9, h10⟩, hF1, hO1⟩ := hx
    refine ⟨g, r, hσ, by rw [hw]; exact hh, h1, h2, h3, h4, fun t => ?_, h6, h7, h8, ?_, fun h => hF1 (hF g h), hO g (Nat.le_of_not_lt hF1) hO1⟩
    · rcases hR with hR | ⟨hR, hc⟩
      · exact R.sh hR _ _ (h5 t)
      · exact R.shC hR _ _ (hc t) (h5 t)
    · rcases hR with hR | ⟨hR, hc⟩
      · exact ⟨hR.D d h9, by rw [hR.σ d h9]; exact h10⟩
      · exact ⟨hR.D d h9, by rw [hR.σ d h9]; exact h10⟩
  | map ks vs =>
    simp only [BRel, Blk.sh] at hx ⊢
    obtain ⟨g, arr, clk, hσ, hh, h1, h2, hF1, hO1⟩ := hx
    rcases hR with hR | ⟨hR, hc⟩
    · exact ⟨g, arr, clk, hσ, by rw [hw]; exact hh, RL.sh hR _ _ h1, RL.sh hR _ _ h2, fun h => hF1 (hF g h), hO g (Nat.le_of_not_lt hF1) hO1⟩
    · exact ⟨g, arr, clk, hσ, by rw [hw]; exact hh, RL.shC hR _ _ hc.1 h1, RL.shC hR _ _ hc.2 h2, fun h => hF1 (hF g h), hO g (Nat.le_of_not_lt hF1) hO1⟩


/-- A call of a function over plain values. -/
theorem call_sound (hs : CRel P X E a s) (hsub : ∀ b x, hv b = some x → s.hp b = some x) {o : Oper} {c : Call} {x : Operand} {g : FuncId} {fi caps : List V} {nm : Nat} (hnm : ∀ j, j < 8 → ¬ E.D (nm + j)) (ho : o.op = .call c) (hc : c.callee = .value x) (hx : ev P s x = .fn g fi caps)
    {K : St → Prop} {Q : Exit → Act → World → Prop} (hd : dstOk s o.dst) (r : Res) (hr : Runs P g (fi ++ (c.args.toList.map fun x => (ev P s x).exp hv) ++ caps) r) (h8 : r.bs.length ≤ 8)
    (hcl : cleanL (fi ++ (c.args.toList.map fun x => (ev P s x).exp hv) ++ caps) = true) (hcl2 : cleanL (fi ++ (c.args.toList.map (ev P s)) ++ caps) = true ∨ (r.v.closed = true ∧ ∀ x ∈ r.bs, x.closed))
    (hK : K (({ s with hp := putHp s.hp nm (r.bs.map (Blk.sh nm)) } : St).put o.dst (r.v.sh nm))) : o.wpIn (FR X.ρ) 0 P a E.w (Goes P X E nm 8 K) Q := by
  have hxe := hs.ev x
  rw [hx] at hxe
  simp only [R] at hxe
  obtain ⟨fvs, cvs, hxe, hfi, hcaps⟩ := hxe
  have cleanApp : ∀ (xs ys : List V), cleanL (xs ++ ys) = true → cleanL xs = true ∧ cleanL ys = true := by
    intro xs ys
    induction xs with
    | nil => intro h; exact ⟨rfl, h⟩
    | cons z zs ih =>
      intro h
      simp only [List.cons_append, cleanL, Bool.and_eq_true] at h ⊢
      exact ⟨⟨h.1, (ih h.2).1⟩, (ih h.2).2⟩
  obtain ⟨hcl0, hclc⟩ := cleanApp _ _ hcl
  obtain ⟨hclf, hcl1⟩ := cleanApp _ _ hcl0
  -- the callee's environment, by what it may not touch
  have main : ∀ (O0 : Nat → Prop), (∀ g, O0 g → E.O g) → RL { w := E.w, O := O0, σ := E.σ, D := fun _ => False } (fi ++ (c.args.toList.map fun x => (ev P s x).exp hv) ++ caps) (fvs ++ c.args.toList.map a.eval ++ cvs) →
      ((∀ g, E.O g → O0 g) ∨ (r.v.closed = true ∧ ∀ x ∈ r.bs, x.closed)) → o.wpIn (FR X.ρ) 0 P a E.w (Goes P X E nm 8 K) Q := by
    intro O0 hO0 hargs hcase
    have hm0 : E.le0 { w := E.w, O := O0, σ := E.σ, D := fun _ => False } := ⟨Nat.le_refl _, fun k hk hO => ⟨rfl, fun h => hO (hO0 k h)⟩⟩
    have hcx := hr { w := E.w, O := O0, σ := E.σ, D := fun _ => False } _ (fun _ h => h) (fun g hg => hs.Oz g (hO0 g hg)) (GOK.mono hm0 hs.gl) hargs
    refine wpIn_FR (fun c' h => by rw [ho] at h; cases h) ?_
    rw [run_callOp ho hc hxe]
    refine NextX.upon hcx ?_ (fun _ _ h => h.elim)
    rintro v w' ⟨Er, rfl, hpost⟩
    have hev : Ev X.F E.w Er.w := ⟨hpost.ev.os, hpost.ev.tape, hpost.ev.output, hpost.ev.size, fun g hg => hpost.ev.blk g (hs.Fz g hg), hpost.ev.drawn⟩
    have hG : Grows X.F E (E.imp Er nm r.bs.length) := by
      refine ⟨⟨fun b hb => .inl hb, fun b hb => ?_, hpost.ev.size, fun k hk hO => ⟨hpost.ev.blk k hk, ?_⟩⟩, fun k hk h => ?_, fun k hk => ?_, fun k hk => .inl hk, fun k hk => hpost.ev.blk k hk, hev⟩
      · have : ¬ (nm ≤ b ∧ b < nm + r.bs.length) := fun h => hnm (b - nm) (by omega) (by rw [show nm + (b - nm) = b by omega]; exact hb)
        simp only [Env.imp, if_neg this]
      · rintro (h | h)
        · exact hO h
        · omega
      · rcases h with h | h
        · exact h
        · omega
      · rcases hk with h | h
        · exact .inl h
        · exact .inr (hpost.Oz k h.1)
    have hShC : Er.leShC nm (E.imp Er nm r.bs.length) := ⟨fun i hi => .inr ⟨by omega, by have := hpost.D i hi; omega⟩, fun i hi => Env.imp_σ E Er (hpost.D i hi)⟩
    have hSh : (∀ g, E.O g → O0 g) → Er.leSh nm (E.imp Er nm r.bs.length) := fun hOO => by
      refine ⟨hShC.D, hShC.σ, ⟨Nat.le_refl _, fun k hk hO => ⟨rfl, ?_⟩⟩⟩
      rintro (h | h)
      · exact hO ((hpost.O k (hs.Oz k h)).2 (hOO k h))
      · exact hO h.1
    have hRv : R (E.imp Er nm r.bs.length) (r.v.sh nm) v := by
      rcases hcase with h | ⟨h, _⟩
      · exact R.sh (hSh h) _ _ hpost.R
      · exact R.shC hShC _ _ h hpost.R
    have hBlk : ∀ i (hi : i < r.bs.length), BRel X.F (E.imp Er nm r.bs.length) (Er.σ i) ((r.bs[i]).sh nm) := fun i hi => by
      have h0 := (hpost.hp.blk i _ (List.getElem?_eq_getElem hi : r.hp i = some _)).2
      refine h0.sh (fun g hg => hs.Fz g hg) rfl (fun g hg hO => .inr ⟨hO, hg⟩) ?_
      rcases hcase with h | ⟨_, h⟩
      · exact .inl (hSh h)
      · exact .inr ⟨hShC, h _ (List.getElem_mem hi)⟩
    have hH : HRel X.F (E.imp Er nm r.bs.length) (putHp s.hp nm (r.bs.map (Blk.sh nm))) := by
      -- a name is an old one or one that came back
      have part : ∀ b y, putHp s.hp nm (r.bs.map (Blk.sh nm)) b = some y → (s.hp b = some y ∧ E.D b ∧ (E.imp Er nm r.bs.length).σ b = E.σ b) ∨
          (∃ i, ∃ hi : i < r.bs.length, b = nm + i ∧ y = (r.bs[i]).sh nm ∧ (E.imp Er nm r.bs.length).σ b = Er.σ i) := by
        intro b y hy
        by_cases hb : b < nm ∨ nm + r.bs.length ≤ b
        · rw [putHp_other _ nm s.hp b (by simpa using hb)] at hy
          have hD := (hs.hp.blk b y hy).1
          exact .inl ⟨hy, hD, hG.le.σ b hD⟩
        · obtain ⟨i, hi, rfl⟩ : ∃ i, i < r.bs.length ∧ b = nm + i := ⟨b - nm, by omega, by omega⟩
          rw [putHp_at _ nm s.hp i (by simpa using hi), List.getElem?_map, List.getElem?_eq_getElem hi, Option.map_some, Option.some.injEq] at hy
          exact .inr ⟨i, hi, rfl, hy.symm, by rw [Nat.add_comm]; exact Env.imp_σ E Er hi⟩
      refine ⟨fun b y hy => ?_, fun b b' y y' k hy hy' hk hk' => ?_⟩
      · rcases part b y hy with ⟨h1, h2, h3⟩ | ⟨i, hi, rfl, rfl, h3⟩
        · exact ⟨.inl h2, by rw [h3]; exact (hs.hp.blk b y h1).2.grow hG⟩
        · exact ⟨.inr ⟨by omega, by omega⟩, by rw [h3]; exact hBlk i hi⟩
      · rcases part b y hy with ⟨h1, h2, h3⟩ | ⟨i, hi, rfl, rfl, h3⟩
        · rcases part b' y' hy' with ⟨h1', h2', h3'⟩ | ⟨i', hi', rfl, rfl, h3'⟩
          · rw [h3] at hk; rw [h3'] at hk'
            exact hs.hp.sep b b' y y' k h1 h1' hk hk'
          · exfalso
            rw [h3] at hk; rw [h3'] at hk'
            have e1 := (hs.hp.blk b y h1).2.lt hk
            have e2 := ((hpost.hp.blk i' _ (List.getElem?_eq_getElem hi' : r.hp i' = some _)).2.own hk').1
            exact e2 e1
        · rcases part b' y' hy' with ⟨h1', h2', h3'⟩ | ⟨i', hi', rfl, rfl, h3'⟩
          · exfalso
            rw [h3] at hk; rw [h3'] at hk'
            have e1 := (hs.hp.blk b' y' h1').2.lt hk'
            have e2 := ((hpost.hp.blk i _ (List.getElem?_eq_getElem hi : r.hp i = some _)).2.own hk).1
            exact e2 e1
          · rw [h3] at hk; rw [h3'] at hk'
            rw [hpost.hp.sep i i' _ _ k (List.getElem?_eq_getElem hi : r.hp i = some _) (List.getElem?_eq_getElem hi' : r.hp i' = some _) hk hk']
    exact ⟨E.imp Er nm r.bs.length, _, rfl, (hs.grow hG hH).put (by exact hd) (fun _ => hRv), hK, hev, fun b hb => hb.imp id (fun h => ⟨h.1, by omega⟩)⟩
  rcases hcl2 with h | h
  · refine main E.O (fun _ h => h) ?_ (.inl fun _ h => h)
    obtain ⟨h0, h2⟩ := cleanApp _ _ h
    obtain ⟨h00, h1⟩ := cleanApp _ _ h0
    have hm : E.le0 { w := E.w, O := E.O, σ := E.σ, D := fun _ => False } := ⟨Nat.le_refl _, fun g hg hO => ⟨rfl, hO⟩⟩
    have key : ∀ (xs : List Operand), cleanL (xs.map (ev P s)) = true → RL { w := E.w, O := E.O, σ := E.σ, D := fun _ => False } (xs.map fun x => (ev P s x).exp hv) (xs.map a.eval) := by
      intro xs
      induction xs with
      | nil => intro _; simp [RL]
      | cons z zs ih =>
        intro hz
        simp only [List.map_cons, cleanL, Bool.and_eq_true, RL] at hz ⊢
        refine ⟨_, _, rfl, ?_, ih hz.2⟩
        have hx := hs.ev z
        have hz1 := hz.1
        generalize ev P s z = Y at hx hz1 ⊢
        cases Y with
        | own b => simp [V.clean] at hz1
        | agg cs =>
          have e : V.exp hv (.agg cs) = .agg cs := by simp only [V.exp]; rw [exp1_clean cs (by simpa only [V.clean] using hz1)]
          rw [e]
          exact R.clean hm _ _ hz1 hx
        | _ => exact R.clean hm _ _ hz1 hx
    exact RL.append (RL.append (RL.clean hm _ _ h00 hfi) (key _ h1)) (RL.clean hm _ _ h2 hcaps)
  · refine main X.A (fun g hg => (hs.AO g hg).1) ?_ (.inr h)
    have hm : E.le0 { w := E.w, O := X.A, σ := E.σ, D := fun _ => False } := ⟨Nat.le_refl _, fun g hg hO => ⟨rfl, fun h => hO (hs.AO g h).1⟩⟩
    exact RL.append (RL.append (RL.clean hm _ _ hclf hfi) (RL.exp (E0 := { w := E.w, O := X.A, σ := E.σ, D := fun _ => False }) hs hsub rfl (fun _ => Iff.rfl) _ hcl1)) (RL.clean hm _ _ hclc hcaps)
end
end Go.Proofs.YtbnjijffkjcmcaaDoor.AL
namespace Go.Proofs.YtbnjijffkjcmcaaDoor.AL
open Go
section
variable {P : Program} [Gl P] {X : Fr} {E : Env} {a : Act} {s : St} {hv : Nat → Option Blk}

theorem zlen_sound {el : TypeId} {sz : Nat} (h : zlen P el = sz) (h0 : 0 < sz) : ∃ i z, P.info? el = some i ∧ i.zero = some z ∧ z.cells.size = sz := by
  unfold zlen at h
  split at h
  · rename_i cs hz
    obtain ⟨i, z, hi, hzv, rfl⟩ := zcells_sound hz
    exact ⟨i, z, hi, hzv, by simpa using h⟩
  · omega

theorem run_append_op {o : Oper} {x y : Operand} {t : TypeId} (ho : o.op = .call { callee := .builtin .append, args := #[x, y], argTypes := #[t, t] }) {v : Value} {w w' : World}
    (h : (Builtin.append_ #[t, t] o.type #[a.eval x, a.eval y]).run P w = .ok v w') : (execOp a.eval o).run P w = .ok (.value v) w' := by
  simp only [execOp, ho, resolve, pure_bind, invoke, builtin, List.map_toArray, List.map_cons, List.map_nil]
  rw [ok_bind h]
  rfl

/-- append, told of a header: what was there, a new name for what comes out. -/
theorem app_core (hs : CRel P X E a s) {o : Oper} {x y : Operand} {t el : TypeId} (ho : o.op = .call { callee := .builtin .append, args := #[x, y], argTypes := #[t, t] })
    (ht : P.underlying t = some (.slice el)) {nm : Nat} (hnm : ¬ E.D nm) {K : St → Prop} {Q : Exit → Act → World → Prop} (hd : dstOk s o.dst)
    {v0 : Value} (hxv : a.eval x = v0) {sz : Nat} {rows rows2 : List (List V)} {vs : List Value} (hown : ownsZ E.w el sz v0 rows.length vs) (hR : RL E rows.flatten vs) (h1 : ∀ u ∈ vs, u.oneCell' = true)
    (hun : ∀ r ∈ rows, r.length = sz ∧ ∀ c ∈ r, anyV c) (hF : ∀ g, blkOf v0 = some g → ¬ X.F g ∧ E.O g)
    {hp0 : Nat → Option Blk} (hp0s : ∀ b' y, hp0 b' = some y → s.hp b' = some y ∧ ∀ k, blkOf (E.σ b') = some k → blkOf v0 ≠ some k)
    (hsr : SrcAt E (a.eval y) sz rows2) (hok : appOk P el sz rows.length rows2.length) {yb : Blk} (hyb : ∀ (E' : Env) (u : Value), BRel X.F E' u (.slo sz el (rows ++ rows2)) → BRel X.F E' u yb)
    (hK : K (({ s with hp := upd hp0 nm (some yb) } : St).put o.dst (.own nm))) : o.wpIn (FR X.ρ) 0 P a E.w (Goes P X E nm 8 K) Q := by
  obtain ⟨hsz, hszc, hzl, hml, hby⟩ := hok
  obtain ⟨i, z, hi, hz, hzs⟩ := zlen_sound hzl hsz
  have hsi : i.size = sz := by rw [hszc]; simp [Program.cellsOf, hi]
  have hbi : i.bytes = P.bytesOf el := by simp [Program.bytesOf, hi]
  obtain ⟨ad, c, news, hyv, hnl, hRn, hcell, h1n, hunn⟩ := hsr
  obtain ⟨v', w', hrun, hown', hgrow, ⟨hos, htape, hout, hsize, hdr⟩, hfr⟩ := append_owns (P := P) E.w t o.type el i z ht hi hz (by rw [hzs, hsi]) (by rw [hsi]; exact hsz) v0 rows.length vs (by rw [hsi]; exact hown) ad rows2.length c news (by rw [hsi]; exact hnl) hcell h1n
    (by unfold maxLen; omega) (by rw [hbi]; exact hby)
  rw [hsi] at hown'
  have hrun' := run_append_op (a := a) ho (v := v') (w := E.w) (w' := w') (by rw [hxv, hyv]; exact hrun)
  refine wpIn_FR (fun c' h => by rw [ho] at h; cases h) ?_
  rw [hrun']
  obtain ⟨E', hE'⟩ : ∃ E' : Env, E' = { w := w', O := fun g => E.O g ∨ blkOf v' = some g, σ := upd E.σ nm v', D := fun b => E.D b ∨ b = nm } := ⟨_, rfl⟩
  have ew : E'.w = w' := by rw [hE']
  have eσn : E'.σ nm = v' := by rw [hE']; simp [upd]
  have eσ : ∀ x, x ≠ nm → E'.σ x = E.σ x := fun x hx => by rw [hE']; simp [upd, hx]
  have eD : ∀ b, E'.D b ↔ E.D b ∨ b = nm := fun b => by rw [hE']
  have eO : ∀ g, E'.O g ↔ E.O g ∨ blkOf v' = some g := fun g => by rw [hE']
  have hnewO : ∀ g, blkOf v' = some g → g < E.w.heap.size → E.O g := fun g hg hgs => by
    rcases hfr with h | h
    · rw [h] at hg; exact (hF g hg).2
    · have := h g hg; omega
  have hnewF : ∀ g, blkOf v' = some g → ¬ X.F g := fun g hg hFg => by
    rcases hfr with h | h
    · rw [h] at hg; exact (hF g hg).1 hFg
    · have := h g hg; have := hs.Fz g hFg; omega
  have hle : E.le E' := by
    refine ⟨fun b hb => (eD b).2 (.inl hb), fun b hb => eσ b (fun e => hnm (e ▸ hb)), by rw [ew]; exact hsize, fun g hg hO => ⟨?_, ?_⟩⟩
    · rw [ew]; exact hgrow g hg (fun e => hO (hF g e).2)
    · rw [eO]
      rintro (h | h)
      · exact hO h
      · exact hO (hnewO g h hg)
  have hvlt : ∀ g, blkOf v' = some g → g < w'.heap.size := fun g hg => by
    rcases hown' with hown' | ⟨_, _, ad1, h⟩
    · rcases hown'.2 with ⟨hv0, _⟩ | ⟨g', cap, cur, hv0, _, hh, _⟩
      · rw [hv0] at hg; simp [blkOf] at hg
      · rw [hv0] at hg
        simp only [blkOf] at hg
        split at hg
        · cases hg
        · simp only [Option.some.injEq] at hg
          subst hg
          exact (Array.getElem?_eq_some_iff.1 hh).1
    · rw [h] at hg; cases ad1 <;> simp [blkOf] at hg
  have hRnew : RL E' (rows ++ rows2).flatten (vs ++ news) := by
    rw [List.flatten_append]
    exact RL.append (RL.mono hle _ _ hR) (RL.mono hle _ _ hRn)
  have hev : Ev X.F E.w w' := ⟨hos, htape, hout, hsize, fun g hg => hgrow g (hs.Fz g hg) (fun e => (hF g e).1 hg), fun _ => hdr⟩
  have hkeep : ∀ b' y, hp0 b' = some y → E'.D b' ∧ BRel X.F E' (E'.σ b') y ∧ E'.σ b' = E.σ b' := fun b' y hy => by
    obtain ⟨h2, h3⟩ := hp0s b' y hy
    obtain ⟨hD, hB⟩ := hs.hp.blk b' y h2
    have hne : b' ≠ nm := fun e => hnm (e ▸ hD)
    refine ⟨(eD b').2 (.inl hD), ?_, eσ b' hne⟩
    rw [eσ b' hne]
    exact hB.keep hle (fun g hg => (eO g).2 (.inl hg)) (fun g hg => by rw [ew]; exact hgrow g (hB.lt hg) (h3 g hg))
  have clash : ∀ b' y k, hp0 b' = some y → blkOf (E.σ b') = some k → blkOf v' = some k → False := fun b' y k hy hk hk' => by
    obtain ⟨h2, h3⟩ := hp0s b' y hy
    rcases hfr with h | h
    · rw [h] at hk'; exact h3 k hk hk'
    · have := h k hk'
      have := (hs.hp.blk b' y h2).2.lt hk
      omega
  have hH : HRel X.F E' (upd hp0 nm (some yb)) := by
    refine ⟨fun b' y hy => ?_, fun b1 b2 y1 y2 k hy1 hy2 hk1 hk2 => ?_⟩
    · by_cases hb : b' = nm
      · subst hb
        simp only [upd_same, Option.some.injEq] at hy
        subst hy
        refine ⟨(eD b').2 (.inr rfl), ?_⟩
        rw [eσn]
        refine hyb _ _ ?_
        simp only [BRel]
        rw [List.length_append, ew]
        rcases hown' with hown' | ⟨hn, hx, ad1, h⟩
        · refine .inl ⟨vs ++ news, hown', hRnew, fun u hu => ?_, hsz, fun r hr => ?_, fun g hg => ⟨hnewF g hg, (eO g).2 (.inr hg)⟩⟩
          · rcases List.mem_append.1 hu with hu | hu
            · exact h1 u hu
            · exact h1n u hu
          · rcases List.mem_append.1 hr with hr | hr
            · exact hun r hr
            · exact hunn r hr
        · refine .inr ⟨?_, hsz, ad1, h⟩
          have e1 : rows = [] := List.eq_nil_of_length_eq_zero (by omega)
          have e2 : rows2 = [] := List.eq_nil_of_length_eq_zero (by omega)
          rw [e1, e2]; rfl
      · rw [upd_other _ _ hb] at hy
        exact ⟨(hkeep b' y hy).1, (hkeep b' y hy).2.1⟩
    · by_cases hb1 : b1 = nm
      · by_cases hb2 : b2 = nm
        · rw [hb1, hb2]
        · exfalso
          rw [upd_other _ _ hb2] at hy2
          rw [(hkeep b2 y2 hy2).2.2] at hk2
          rw [hb1, eσn] at hk1
          exact clash b2 y2 k hy2 hk2 hk1
      · rw [upd_other _ _ hb1] at hy1
        rw [(hkeep b1 y1 hy1).2.2] at hk1
        by_cases hb2 : b2 = nm
        · exfalso
          rw [hb2, eσn] at hk2
          exact clash b1 y1 k hy1 hk1 hk2
        · rw [upd_other _ _ hb2] at hy2
          rw [(hkeep b2 y2 hy2).2.2] at hk2
          exact hs.hp.sep b1 b2 _ _ k (hp0s b1 y1 hy1).1 (hp0s b2 y2 hy2).1 hk1 hk2
  have hER : ERel P X.F X.A E' ({ s with hp := upd hp0 nm (some yb) } : St) := by
    refine ⟨hH, GOK.mono hle.le0 hs.gl, fun g hg => ⟨(eO g).2 (.inl (hs.AO g hg).1), (hs.AO g hg).2⟩, fun g hg => by rw [ew]; exact Nat.lt_of_lt_of_le (hs.Fz g hg) hsize, fun g hg hFg => ?_, fun g hg => ?_⟩
    · rcases (eO g).1 hg with h | h
      · exact hs.OA g h hFg
      · exact absurd hFg (hnewF g h)
    · rcases (eO g).1 hg with h | h
      · rw [ew]; exact Nat.lt_of_lt_of_le (hs.Oz g h) hsize
      · rw [ew]; exact hvlt g h
  refine ⟨E', _, ew, (hs.next hle hER rfl rfl rfl rfl rfl).put (by exact hd) (fun _ => ?_), hK, hev, fun b hb => ?_⟩
  · simp only [R]
    refine ⟨(eD nm).2 (.inr rfl), eσn.symm, ?_⟩
    rcases hown' with hown' | ⟨_, _, ad1, h⟩
    · rcases hown'.2 with ⟨hv0, _⟩ | ⟨g', cap, cur, hv0, _⟩
      · exact ⟨_, _, _, hv0⟩
      · exact ⟨_, _, _, hv0⟩
    · exact ⟨_, _, _, h⟩
  · rcases (eD b).1 hb with h | h
    · exact .inl h
    · exact .inr ⟨by omega, by omega⟩

theorem SrcAt.of {F : Nat → Prop} {E : Env} {hp : Nat → Option Blk} (H : HRel F E hp) {x : V} {u : Value} (hx : R E x u) {sz : Nat} {rows : List (List V)} {esz : Nat} (h : srcRows esz hp x = some (sz, rows)) (hsz : 0 < sz) : SrcAt E u sz rows ∧ ∀ r ∈ rows, ∀ c ∈ r, c.tree = true := by
  obtain ⟨ad, c, news, h1, h2, h3, h4, h5, h6⟩ := srcRows_sound H hx h hsz
  exact ⟨⟨ad, c, news, h1, h2, h3, h4, h5, fun r hr => ⟨(h6 r hr).1, fun _ _ => trivial⟩⟩, fun r hr => (h6 r hr).2⟩
theorem BRel.ofSlo {F : Nat → Prop} {E : Env} {v : Value} {sz : Nat} {ty : TypeId} {rows : List (List V)} (ht : ∀ r ∈ rows, ∀ c ∈ r, c.tree = true) (h : BRel F E v (.slo sz ty rows)) : BRel F E v (.sl sz ty rows) := by
  simp only [BRel] at h ⊢
  rcases h with ⟨vs, h1, h2, h3, h4, h5, h6⟩ | h
  · exact .inl ⟨vs, h1, h2, h3, h4, fun r hr => ⟨(h5 r hr).1, ht r hr⟩, h6⟩
  · exact .inr h
theorem app_sound (hs : CRel P X E a s) (hsub : ∀ b x, hv b = some x → s.hp b = some x) {o : Oper} {x y : Operand} {t el : TypeId} (ho : o.op = .call { callee := .builtin .append, args := #[x, y], argTypes := #[t, t] })
    (ht : P.underlying t = some (.slice el)) {nm : Nat} (hnm : ¬ E.D nm) {K : St → Prop} {Xp : V → St → Prop} {Q : Exit → Act → World → Prop} (hd : dstOk s o.dst) {d : Prop}
    (h : orK (orA P d el nm hv (ev P s x) (srcO hv (ev P s y)) (srcRows (P.cellsOf el) hv (ev P s y))) o.dst s K Xp) : o.wpIn (FR X.ρ) 0 P a E.w (Goes P X E nm 8 K) Q := by
  have hx := hs.ev x
  have hy := hs.ev y
  have hHs := hs.hp.sub hsub
  -- onto a row of the call's own
  have own : ∀ (b sz : Nat) (ty : TypeId) (rows rows2 : List (List V)) (x0 yb : Blk), ev P s x = .own b → s.hp b = some x0 → BRel X.F E (E.σ b) (.slo sz el rows) → SrcAt E (a.eval y) sz rows2 → appOk P el sz rows.length rows2.length →
      (∀ (E' : Env) (u : Value), BRel X.F E' u (.slo sz el (rows ++ rows2)) → BRel X.F E' u yb) → K (({ s with hp := upd (upd s.hp b none) nm (some yb) } : St).put o.dst (.own nm)) → o.wpIn (FR X.ρ) 0 P a E.w (Goes P X E nm 8 K) Q := by
    intro b sz ty rows rows2 x0 yb hX hbk' hB hsr hok hyb hK
    rw [hX] at hx; simp only [R] at hx
    obtain ⟨hD, hxv, _⟩ := hx
    have hown0 := fun g (hg : blkOf (E.σ b) = some g) => hB.own hg
    have hrm : ∀ b' y, upd s.hp b none b' = some y → s.hp b' = some y ∧ ∀ k, blkOf (E.σ b') = some k → blkOf (E.σ b) ≠ some k := fun b' y hy => by
      by_cases hb : b' = b
      · subst hb; simp [upd_same] at hy
      · rw [upd_other _ _ hb] at hy
        exact ⟨hy, fun k hk hk' => hb (hs.hp.sep b' b _ _ k hy hbk' hk hk')⟩
    simp only [BRel] at hB
    rcases hB with ⟨vs, hown, hR, h1, hsz, hun, hF⟩ | ⟨h0, hsz, ad0, hσ⟩
    · exact app_core hs ho ht hnm hd hxv (.inl hown) hR h1 hun hown0 hrm hsr hok hyb hK
    · subst h0
      exact app_core (vs := []) hs ho ht hnm hd hxv (.inr ⟨rfl, rfl, ad0, hσ⟩) (by simp [RL]) (by simp) (by simp) hown0 hrm hsr hok hyb hK
  have nil : ∀ (sz : Nat) (rows2 : List (List V)) (yb : Blk), ev P s x = .nils → SrcAt E (a.eval y) sz rows2 → appOk P el sz 0 rows2.length →
      (∀ (E' : Env) (u : Value), BRel X.F E' u (.slo sz el rows2) → BRel X.F E' u yb) → K (({ s with hp := upd s.hp nm (some yb) } : St).put o.dst (.own nm)) → o.wpIn (FR X.ρ) 0 P a E.w (Goes P X E nm 8 K) Q := by
    intro sz rows2 yb hX hsr hok hyb hK
    rw [hX] at hx; simp only [R] at hx
    exact app_core (rows := []) (vs := []) (hp0 := s.hp) (Q := Q) (K := K) hs ho ht hnm hd hx (.inl (World.ownsRow_nil _ _ _ _)) (by simp [RL]) (by simp) (by simp) (fun g hg => by simp [blkOf] at hg) (fun b' y hy => ⟨hy, fun k hk hk' => by simp [blkOf] at hk'⟩) hsr hok (by simpa using hyb) hK
  unfold orA at h
  split at h
  · split at h
    · exact h.elim
    · rename_i sr hso
      obtain ⟨sz2, rows2⟩ := sr
      have hsr := srcO_sound hHs hy hso
      split at h
      · rename_i b hX
        split at h
        · rename_i sz ty rows hbk
          obtain ⟨⟨_, rfl, hsz2, hok⟩, hK⟩ := h
          simp only at hsz2 hok hK
          subst hsz2
          exact own b _ ty rows rows2 _ _ hX (hsub _ _ hbk) (hs.hp.blk b _ (hsub _ _ hbk)).2.toSlo hsr hok (fun _ _ h => h) hK
        · rename_i sz ty rows hbk
          obtain ⟨⟨_, rfl, hsz2, hok⟩, hK⟩ := h
          simp only at hsz2 hok hK
          subst hsz2
          exact own b _ ty rows rows2 _ _ hX (hsub _ _ hbk) (hs.hp.blk b _ (hsub _ _ hbk)).2 hsr hok (fun _ _ h => h) hK
        · exact h.elim
      · rename_i hX
        obtain ⟨⟨_, hok⟩, hK⟩ := h
        exact nil _ _ _ hX hsr hok (fun _ _ h => h) hK
      · exact h.elim
  rename_i sr hsr0
  obtain ⟨sz2, rows2⟩ := sr
  split at h
  · rename_i b hX
    split at h
    · rename_i sz ty rows hbk
      obtain ⟨⟨_, rfl, hsz2, hok⟩, hK⟩ := h
      simp only at hsz2 hok hK
      subst hsz2
      obtain ⟨hsr, htr⟩ := SrcAt.of hHs hy hsr0 hok.1
      have hB := (hs.hp.blk b _ (hsub _ _ hbk)).2
      have htr0 : ∀ r ∈ rows, ∀ c ∈ r, c.tree = true := by
        simp only [BRel] at hB
        rcases hB with ⟨vs, _, _, _, _, h5, _⟩ | ⟨rfl, _⟩
        · exact fun r hr => (h5 r hr).2
        · simp
      exact own b _ ty rows rows2 _ _ hX (hsub _ _ hbk) hB.toSlo hsr hok (fun _ _ h => BRel.ofSlo (fun r hr => by
        rcases List.mem_append.1 hr with hr | hr
        · exact htr0 r hr
        · exact htr r hr) h) hK
    · rename_i sz ty rows hbk
      obtain ⟨⟨_, rfl, hsz2, hok⟩, hK⟩ := h
      simp only at hsz2 hok hK
      subst hsz2
      obtain ⟨hsr, htr⟩ := SrcAt.of hHs hy hsr0 hok.1
      exact own b _ ty rows rows2 _ _ hX (hsub _ _ hbk) (hs.hp.blk b _ (hsub _ _ hbk)).2 hsr hok (fun _ _ h => h) hK
    · exact h.elim
  · rename_i hX
    obtain ⟨⟨_, hok⟩, hK⟩ := h
    obtain ⟨hsr, htr⟩ := SrcAt.of hHs hy hsr0 hok.1
    exact nil _ _ _ hX hsr hok (fun _ _ h => BRel.ofSlo htr h) hK
  · exact h.elim

/-- An operation that neither panics nor calls by a contract. -/
def OR.plain : OR → Bool
  | .panic _ _ | .ctr _ _ => false
  | _ => true
theorem op_sound {T : Tab} (hT : T.ok P) (hs : CRel P X E a s) (hsub : ∀ b x, hv b = some x → s.hp b = some x) {o : Oper} {nm : Nat} (hnm : ∀ j, j < 8 → ¬ E.D (nm + j)) {K : St → Prop} {Xp : V → St → Prop} (Q : Exit → Act → World → Prop)
    (hp : (opR P T o.dst nm hv s o.op).plain = true) (h : orK (opR P T o.dst nm hv s o.op) o.dst s K Xp) :
    o.wpIn (FR X.ρ) 0 P a E.w (Goes P X E nm 8 K) Q := by
  have hnmD : ¬ E.D nm := by simpa using hnm 0 (by omega)
  have generic : (∀ c, o.op ≠ .defer c) → orK (orQ (dstOk s o.dst) nm (qf P hv (ev P s) o.op)) o.dst s K Xp → o.wpIn (FR X.ρ) 0 P a E.w (Goes P X E nm 8 K) Q := by
    intro hnd h
    cases hq : qf P hv (ev P s) o.op with
    | val c v =>
      rw [hq] at h
      obtain ⟨⟨hd, hc⟩, hK⟩ := h
      obtain ⟨u, hu, hR⟩ := qf_val (hs.hp.sub hsub) (fun x => hs.ev x) hq hc
      exact Goes.val hnd hs hd hu hR hK
    | new c x =>
      rw [hq] at h
      obtain ⟨⟨hd, hc⟩, hK⟩ := h
      obtain ⟨u, E', hu, hG, hR, hH, hD⟩ := qf_new hs.hp (fun x => hs.ev x) hs.Fz hnmD hq hc
      exact Goes.new hnd hs hd hu hR hG hH (fun b hb => ((hD b).1 hb).imp id (fun h => by omega)) hK
    | bad => rw [hq] at h; exact h.elim
  cases hop : o.op with
  | store t p x =>
    rw [hop] at h
    simp only [opR] at h
    cases hl : lstore P hv (ev P s) t p x with
    | store c b y =>
      rw [hl] at h
      obtain ⟨⟨hd, hc⟩, hK⟩ := h
      obtain ⟨w', hw, hH, hle, hev⟩ := lstore_sound hs.hp hsub (fun x => hs.ev x) hop hl hc
      refine wpIn_FR (fun c' h => by rw [hop] at h; cases h) ?_
      rw [hw]
      refine ⟨{ E with w := w' }, _, rfl, CRel.put (s := s.setB b y) (hs.next hle ⟨hH, GOK.mono hle.le0 hs.gl, hs.AO, fun g hg => Nat.lt_of_lt_of_le (hs.Fz g hg) hle.size, hs.OA, fun g hg => Nat.lt_of_lt_of_le (hs.Oz g hg) hle.size⟩ rfl rfl rfl rfl rfl) (by exact hd) (fun _ => by simp only [R]), hK, hev, fun b hb => .inl hb⟩
    | bad => rw [hl] at h; exact h.elim
  | mapUpdate t m k x =>
    rw [hop] at h
    simp only [opR] at h
    cases hl : lmap P hv (ev P s) t m k x with
    | store c b y =>
      rw [hl] at h
      obtain ⟨⟨hd, hc⟩, hK⟩ := h
      obtain ⟨w', hw, hH, hle, hev⟩ := lmap_sound hs.hp hsub (fun x => hs.ev x) hop hl hc
      refine wpIn_FR (fun c' h => by rw [hop] at h; cases h) ?_
      rw [hw]
      refine ⟨{ E with w := w' }, _, rfl, CRel.put (s := s.setB b y) (hs.next hle ⟨hH, GOK.mono hle.le0 hs.gl, hs.AO, fun g hg => Nat.lt_of_lt_of_le (hs.Fz g hg) hle.size, hs.OA, fun g hg => Nat.lt_of_lt_of_le (hs.Oz g hg) hle.size⟩ rfl rfl rfl rfl rfl) (by exact hd) (fun _ => by simp only [R]), hK, hev, fun b hb => .inl hb⟩
    | bad => rw [hl] at h; exact h.elim
  | panic x =>
    rw [hop] at hp h
    simp only [opR] at hp h
    cases he : ev P s x <;> rw [he] at hp h <;> simp only [orP, OR.plain, orK] at hp h <;> first | cases hp | exact h.elim
  | call c =>
    rw [hop] at hp h
    simp only [opR] at hp h
    cases hcal : c.callee with
    | value f =>
      rw [hcal] at hp h
      simp only at hp h
      cases hf : ev P s f with
      | fn g fi caps =>
        rw [hf] at hp h
        simp only [orF] at hp h
        cases hC : T.C g with
        | some C => rw [hC] at hp; simp [orFC, OR.plain] at hp
        | none =>
          rw [hC] at h
          simp only [orFC] at h
          cases hr : T.R g (fi ++ (c.args.toList.map fun x => (ev P s x).exp hv) ++ caps) with
          | none => rw [hr] at h; exact h.elim
          | some r =>
            rw [hr] at h
            obtain ⟨⟨hd, h2, h3, h4⟩, h5⟩ := h
            exact call_sound hs hsub hnm hop hcal hf hd r (hT.R _ _ _ hr) h2 h3 h4 h5
      | yld b =>
        rw [hf] at hp h
        simp only [orF] at hp h
        cases hY : T.Y with
        | some Y => rw [hY] at hp; simp [orY, OR.plain] at hp
        | none => rw [hY] at h; exact h.elim
      | _ => rw [hf] at h; exact h.elim
    | invoke r m =>
      rw [hcal] at h
      simp only at h
      refine generic (fun c' h => by rw [hop] at h; cases h) ?_
      rw [hop]
      cases hq : qf P hv (ev P s) (.call c) <;> rw [hq] at h <;> first | exact h | exact h.elim
    | builtin bi =>
      rw [hcal] at h
      by_cases hb : bi = .append
      · subst hb
        try simp only at h
        split at h
        · rename_i x y hargs
          split at h
          · rename_i t t' htys
            split at h
            · rename_i el hu
              obtain ⟨callee, args, argTypes⟩ := c
              simp only at hcal hargs htys
              subst hcal
              have hd : dstOk s o.dst ∧ t' = t := by
                unfold orA at h
                (repeat' split at h) <;> first | exact h.elim | exact h.1.1
              obtain ⟨hd, rfl⟩ := hd
              have ha : args = #[x, y] := by rw [← Array.toArray_toList (xs := args), hargs]
              have hty : argTypes = #[t', t'] := by rw [← Array.toArray_toList (xs := argTypes), htys]
              subst ha hty
              exact app_sound hs hsub hop hu hnmD hd h
            · exact h.elim
          · exact h.elim
        · exact h.elim
      · have h' : orK (orV (dstOk s o.dst) (qf P hv (ev P s) (.call c))) o.dst s K Xp := by
          cases bi <;> first | exact h | exact absurd rfl hb
        refine generic (fun c' h => by rw [hop] at h; cases h) ?_
        rw [hop]
        cases hq : qf P hv (ev P s) (.call c) <;> rw [hq] at h' <;> first | exact h' | exact h'.elim
  | defer c => rw [hop] at h; simp only [opR, qf, orQ, orK] at h
  | _ => rw [hop] at h; exact generic (fun c' h => by rw [hop] at h; cases h) (by rw [hop]; exact h)
end
end Go.Proofs.YtbnjijffkjcmcaaDoor.AL
namespace Go.Proofs.YtbnjijffkjcmcaaDoor.AL
open Go
/-! ### Regions in the text's order -/
def gval (ops : Array Oper) (s : St) (j : Nat) (want : Bool) : Option Bool :=
  match (ops[j]?).bind (·.dst) with
  | some t => match s.tm t with
    | .bool b => some (b == want)
    | .tup [] => some false
    | _ => none
  | none => none
/-- A guarded step. -/
def gStep (ops : Array Oper) (o : Oper) (s : St) (A B : Prop) : Prop :=
  match o.guard with
  | none => A
  | some (j, want) => match gval ops s j want with
    | some b => if b = true then A else B
    | none => False
/-- What an operation asks, where the operations come in the text's order: the next name goes on. -/
def orT (r : OR) (dst : Option Tmp) (s : St) (K : St → Prop) (X : V → St → Prop) : Prop :=
  match r with
  | .val c v => c ∧ K ((s.put dst v).setN (s.nx + 8))
  | .new c n b v => c ∧ K (((s.setB n b).put dst v).setN (s.nx + 8))
  | .store c b x => c ∧ K (((s.setB b x).put dst .junk).setN (s.nx + 8))
  | .grow c b n x => c ∧ K ((((s.rmB b).setB n x).put dst (.own n)).setN (s.nx + 8))
  | .call c n bs v => c ∧ K (((s.putB n bs).put dst v).setN (s.nx + 8))
  | .panic c v => c ∧ X v s
  | .ctr c f => c ∧ f (fun v s' => K ((s.back s').put dst v)) (fun v s' => X v (s.back s'))
  | .bad => False
theorem orT_plain {r : OR} (h : r.plain = true) {dst : Option Tmp} {s : St} {K : St → Prop} {X : V → St → Prop} : orT r dst s K X = orK r dst s (fun s' => K (s'.setN (s.nx + 8))) X := by
  cases r <;> first | rfl | simp [OR.plain] at h
section
variable (P : Program) [Gl P] (T : Tab) (ops : Array Oper)
def WOps (Q : St → Prop) (X : V → St → Prop) : List Oper → St → Prop
  | [], s => Q s
  | o :: rest, s => gStep ops o s (orT (opR P T o.dst s.nx s.hp s o.op) o.dst s (WOps Q X rest) X) (dstOk s o.dst ∧ WOps Q X rest (s.put o.dst (.tup [])))
end
/-- One way out, by a panic. -/
def onPanic (Xp : V → St → Prop) : AX → St → Prop
  | .panic v, s => Xp v s
  | _, _ => False

section
variable {P : Program} [Gl P] {T : Tab} {X : Fr} {E : Env} {a : Act} {s : St} {ops : Array Oper}
theorem gval_sound (hs : CRel P X E a s) {j : Nat} {want b : Bool} (h : gval ops s j want = some b) : (yielded ops a.tmps j == some want) = b := by
  unfold gval at h
  unfold yielded
  split at h
  · rename_i t ht
    have h0 := hs.tm t
    rw [ht]
    simp only [Option.bind_some]
    rw [Array.getD_eq_getD_getElem?] at h0
    split at h
    · rename_i b' hb
      simp only [Option.some.injEq] at h
      subst h
      rw [hb] at h0
      simp only [R] at h0
      cases hg : a.tmps[t]? with
      | none => rw [hg] at h0; simp [undef] at h0
      | some v => rw [hg] at h0; simp only [Option.getD_some] at h0; subst h0; simp
    · rename_i hb
      simp only [Option.some.injEq] at h
      subst h
      rw [hb] at h0
      simp only [R, RL] at h0
      obtain ⟨vs, h0, rfl⟩ := h0
      cases hg : a.tmps[t]? with
      | none => simp
      | some v => rw [hg] at h0; simp only [Option.getD_some] at h0; subst h0; simp
    · exact absurd h (by simp)
  · exact absurd h (by simp)

/-- A guarded step: what must be shown of the model. -/
theorem gStep_sound (hs : CRel P X E a s) {o : Oper} {A B : Prop} {W1 W2 : Prop} (hA : A → W1) (hB : B → W2) (h : gStep ops o s A B) : if Region.wanted o (yielded ops a.tmps) then W1 else W2 := by
  unfold gStep at h
  cases hg : o.guard with
  | none =>
    rw [hg] at h
    rw [if_pos (by simp [Region.wanted, hg])]
    exact hA h
  | some jw =>
    obtain ⟨j, want⟩ := jw
    rw [hg] at h
    simp only at h
    split at h
    · rename_i b hb
      have hy := gval_sound hs hb
      split at h
      · rename_i hbw
        rw [if_pos (by rw [hbw] at hy; simpa [Region.wanted, hg] using hy)]
        exact hA h
      · rename_i hbw
        rw [if_neg (by have hbw' : b = false := by simpa using hbw
                       rw [hbw'] at hy; simpa [Region.wanted, hg] using hy)]
        exact hB h
    · exact h.elim

def GoesT (P : Program) [Gl P] (X : Fr) (w0 : World) (K : St → Prop) (a' : Act) (w' : World) : Prop :=
  ∃ E' s', E'.w = w' ∧ SRel P X E' a' s' ∧ K s' ∧ Ev X.F w0 w'
theorem SRel.ofGoes {nm m n : Nat} (hs : SRel P X E a s) {a' : Act} {E' : Env} {s' : St} (hC : CRel P X E' a' s') (hD : ∀ b, E'.D b → E.D b ∨ (nm ≤ b ∧ b < nm + m)) (h1 : s.nx ≤ n) (h2 : nm + m ≤ n) : SRel P X E' a' (s'.setN n) :=
  ⟨hC.setN n, fun b hb => (hD b hb).elim (fun h => Nat.lt_of_lt_of_le (hs.nx b h) h1) (fun h => Nat.lt_of_lt_of_le h.2 h2)⟩
/-- A contract serves at a call. -/
theorem ctr_sound (hs : SRel P X E a s) {o : Oper} (hd : dstOk s o.dst) (hnd : ∀ c, o.op ≠ .defer c) {K : St → Prop} {Xp : V → St → Prop} {us : List Value}
    {call : List Value → World → (Value → World → Prop) → (List PanicEntry → World → Prop) → Prop} (hcall : ∀ R Xc, call us E.w R Xc → NextX P R Xc ((execOp a.eval o).run P E.w))
    (h : CallG P call s E X.F X.A us (fun v s' => K ((s.back s').put o.dst v)) (fun v s' => Xp v (s.back s'))) :
    o.wpIn (FR X.ρ) 0 P a E.w (GoesT P X E.w K) (postA P X E.w (onPanic Xp)) := by
  refine wpIn_FR hnd (NextX.upon (hcall _ _ h) ?_ ?_)
  · rintro v w' ⟨E', s', x, rfl, hle, hE, hnx, hR, hK, hev⟩
    have hC := (hs.toCRel.next (s' := s.back s') hle (hE.cong rfl) rfl rfl rfl rfl rfl).put (dst := o.dst) (u := v) (v := x) (by exact hd) (fun _ => hR)
    exact ⟨E', _, rfl, { hC with nx := fun b hb => by have := hnx b hb; cases o.dst <;> exact this }, hK, hev⟩
  · rintro ch w' ⟨E', s', x, u, rfl, hle, hE, hnx, hch, hR, hX, hev⟩
    have hC := hs.toCRel.next (s' := s.back s') hle (hE.cong rfl) rfl rfl rfl rfl rfl
    exact ⟨E', s.back s', .panic x, rfl, { hC with nx := hnx }, ⟨u, by rw [hch], hR⟩, hX, hev⟩

theorem opT_sound (hT : T.ok P) (hs : SRel P X E a s) {o : Oper} {K : St → Prop} {Xp : V → St → Prop} (h : orT (opR P T o.dst s.nx s.hp s o.op) o.dst s K Xp) :
    o.wpIn (FR X.ρ) 0 P a E.w (GoesT P X E.w K) (postA P X E.w (onPanic Xp)) := by
  by_cases hp : (opR P T o.dst s.nx s.hp s o.op).plain = true
  · rw [orT_plain hp] at h
    refine Oper.wpIn_mono ?_ (op_sound hT hs.toCRel (fun _ _ h => h) (fun j hj hD => by have := hs.nx _ hD; omega) _ hp h)
    rintro a' w' ⟨E', s', rfl, hC, hk, hev, hD⟩
    exact ⟨E', _, rfl, hs.ofGoes hC hD (Nat.le_add_right _ _) (Nat.le_refl _), hk, hev⟩
  · cases hop : o.op with
    | panic x =>
      rw [hop] at h
      simp only [opR] at h
      have hx := hs.ev x
      cases he : ev P s x <;> rw [he] at h <;> simp only [orP, orT] at h
      rename_i t v
      rw [he] at hx
      refine wpIn_FR (fun c' h => by rw [hop] at h; cases h) ?_
      have hx' := hx
      simp only [R] at hx'
      obtain ⟨u, hxu, hu⟩ := hx'
      have red : (execOp a.eval o).run P E.w = .halt (.panic (.iface t u)) E.w := by
        simp [execOp, hop, hxu, Instr.panic, goPanic]
      rw [red]
      exact ⟨E, s, .panic (.iface t v), rfl, hs, ⟨_, rfl, by simp only [R]; exact ⟨u, rfl, hu⟩⟩, h.2, Ev.refl _ _⟩
    | call c =>
      rw [hop] at hp h
      simp only [opR] at hp h
      cases hcal : c.callee with
      | value f =>
        rw [hcal] at hp h
        simp only at hp h
        have hf0 := hs.ev f
        cases hf : ev P s f with
        | fn g fi caps =>
          rw [hf] at hp h hf0
          simp only [orF] at hp h
          cases hC : T.C g with
          | none =>
            exfalso; apply hp
            rw [hC]
            simp only [orFC]
            cases T.R g (fi ++ (c.args.toList.map fun x => (ev P s x).exp s.hp) ++ caps) <;> rfl
          | some C =>
            rw [hC] at h
            obtain ⟨⟨hd, _⟩, h⟩ := h
            simp only [R] at hf0
            obtain ⟨fvs, cvs, hfv, h1, h2⟩ := hf0
            refine ctr_sound (us := fvs ++ c.args.toList.map a.eval ++ cvs) (call := CalledX P g) hs hd (fun c' h => by rw [hop] at h; cases h) (fun R Xc hc => ?_) (hT.C g C hC _ _ _ _ h X.F X.A E _ hs.toERel hs.nx (RL.append (RL.append h1 (RL.map (fun x => hs.ev x) _)) h2))
            rw [run_callOp hop hcal hfv]
            exact hc
        | yld b =>
          rw [hf] at hp h hf0
          simp only [orF] at hp h
          cases hY : T.Y with
          | none => rw [hY] at h; exact h.elim
          | some Y =>
            rw [hY] at h
            obtain ⟨⟨hd, _⟩, h⟩ := h
            simp only [R] at hf0
            obtain ⟨hD, g, hσ, hfv⟩ := hf0
            refine ctr_sound (us := c.args.toList.map a.eval) (call := fun us w R X => NextX P R X ((Instr.yield g us.toArray).run P w)) hs hd (fun c' h => by rw [hop] at h; cases h) (fun R Xc hc => ?_) (hT.Y Y hY b _ _ _ _ h X.F X.A E _ g hs.toERel hs.nx (RL.map (fun x => hs.ev x) _) hD hσ)
            have hargs : (c.args.toList.map a.eval).toArray = c.args.map a.eval := by
              rw [← Array.toList_map, Array.toArray_toList]
            have : (execOp a.eval o) = Instr.yield g (c.args.toList.map a.eval).toArray := by
              rw [hargs]
              simp only [execOp, hop, resolve, hcal, hfv, Deferred.ofValue, pure_bind, invoke, Array.empty_append]
            rw [this]
            exact hc
        | _ => rw [hf] at h; exact h.elim
      | invoke r m =>
        exfalso; apply hp
        rw [hcal]
        simp only
        cases qf P s.hp (ev P s) (.call c) <;> rfl
      | builtin bi =>
        exfalso; apply hp
        rw [hcal]
        have app : ∀ d el n x so sr, (orA P d el n s.hp x so sr).plain = true := by
          intro d el n x so sr
          unfold orA
          (repeat' split) <;> rfl
        cases bi <;> simp only <;> first
          | (cases qf P s.hp (ev P s) (.call c) <;> rfl)
          | (split
             · split
               · split
                 · exact app ..
                 · rfl
               · rfl
             · rfl)
    | store t p x =>
      exfalso; apply hp
      rw [hop]
      simp only [opR]
      cases lstore P s.hp (ev P s) t p x <;> rfl
    | mapUpdate t m k x =>
      exfalso; apply hp
      rw [hop]
      simp only [opR]
      cases lmap P s.hp (ev P s) t m k x <;> rfl
    | _ =>
      exfalso; apply hp
      rw [hop]
      simp only [opR]
      generalize qf P s.hp (ev P s) _ = q
      cases q <;> rfl

theorem WOps_sound (hT : T.ok P) {w0 : World} {Q : AX → St → Prop} : ∀ (l : List Nat) (lo : List Oper), (l.map fun i => ops[i]?) = lo.map some → ∀ {E : Env} {a : Act} {s : St}, SRel P X E a s → Ev X.F w0 E.w → WOps P T ops (Q .normal) (fun v => Q (.panic v)) lo s →
    wpOpsIn (FR X.ρ) 0 P ops (postA P X w0 Q) l a E.w := by
  intro l
  induction l with
  | nil =>
    intro lo hl E a s hs hev h
    cases lo with
    | nil => exact ⟨E, s, .normal, rfl, hs, rfl, h, hev⟩
    | cons o lo => simp at hl
  | cons i l ih =>
    intro lo hl E a s hs hev h
    cases lo with
    | nil => simp at hl
    | cons o lo =>
      simp only [List.map_cons, List.cons.injEq] at hl
      simp only [WOps] at h
      simp only [wpOpsIn, hl.1]
      have key : ∀ (K : Act → World → Prop), (∀ a' w', GoesT P X E.w (fun s' => WOps P T ops (Q .normal) (fun v => Q (.panic v)) lo s') a' w' → K a' w') →
          ∀ (Qx : Exit → Act → World → Prop), (∀ e a' w', postA P X E.w (onPanic fun v => Q (.panic v)) e a' w' → Qx e a' w') →
          (orT (opR P T o.dst s.nx s.hp s o.op) o.dst s (WOps P T ops (Q .normal) (fun v => Q (.panic v)) lo) (fun v => Q (.panic v))) → o.wpIn (FR X.ρ) 0 P a E.w K Qx := by
        intro K hK Qx hQx h1
        have := opT_sound hT hs h1
        refine ⟨fun _ _ => trivial, ?_⟩
        have h2 := this.2
        revert h2
        generalize (o.semAt (FR X.ρ).round a.eval).run P E.w = r
        intro h2
        cases r with
        | halt x w' => cases x <;> simp only [Oper.uponIn] at h2 ⊢ <;> exact hQx _ _ _ h2
        | ok n w' =>
          cases n <;> simp only [Oper.uponIn] at h2 ⊢ <;> first
            | exact hK _ _ h2
            | exact ⟨h2.1, CallsIn.mono h2.2 (fun e w'' he => by cases e <;> first | exact hK _ _ he | exact hQx _ _ _ he | (obtain ⟨a0, w0', hq⟩ := he; exact ⟨a0, w0', hQx _ _ _ hq⟩))⟩
            | exact ⟨h2.1, RowsIn.mono h2.2 (fun _ _ he => hK _ _ he)⟩
            | exact ⟨h2.1, RoundIn.mono h2.2 (fun e w'' he => by cases e <;> first | exact hK _ _ he | exact hQx _ _ _ he | (obtain ⟨a0, w0', hq⟩ := he; exact ⟨a0, w0', hQx _ _ _ hq⟩))⟩
      have go : ∀ a' w', GoesT P X E.w (fun s' => WOps P T ops (Q .normal) (fun v => Q (.panic v)) lo s') a' w' → wpOpsIn (FR X.ρ) 0 P ops (postA P X w0 Q) l a' w' := by
        rintro a' w' ⟨E', s', rfl, hS, hk, hev'⟩
        exact ih lo hl.2 hS (hev.trans hev') hk
      have goX : ∀ e a' w', postA P X E.w (onPanic fun v => Q (.panic v)) e a' w' → postA P X w0 Q e a' w' := by
        rintro e a' w' ⟨E', s', x, rfl, h1, h2, h3, h4⟩
        refine ⟨E', s', x, rfl, h1, h2, ?_, hev.trans h4⟩
        cases x <;> first | exact h3 | exact h3.elim
      refine gStep_sound hs.toCRel (fun h1 => key _ go _ goX h1) (fun h1 => ⟨fun _ _ => trivial, go _ _ ⟨E, _, rfl, ?_, h1.2, Ev.refl _ _⟩⟩) h
      have hC := hs.toCRel.put (dst := o.dst) h1.1 (u := undef) (v := .tup []) (fun _ => by simp only [R]; exact ⟨[], rfl, by simp only [RL]⟩)
      exact { hC with nx := fun b hb => by have := hs.nx b hb; cases o.dst <;> exact this }
theorem ops_range (ops : Array Oper) : ((List.range ops.size).map fun i => ops[i]?) = ops.toList.map some := by
  apply List.ext_getElem?
  intro i
  simp only [List.getElem?_map]
  by_cases h : i < ops.size
  · simp [h]
  · simp [h, Nat.le_of_not_lt h]
theorem W.region (hT : T.ok P) {id : Nat} {Q : AX → St → Prop} (h : WOps P T ops (Q .normal) (fun v => Q (.panic v)) ops.toList s) : W P (.region id ops false) s Q :=
  fun X E a hs => wpIn_region (WOps_sound hT _ _ (ops_range ops) hs (Ev.refl _ _) h)
end
end Go.Proofs.YtbnjijffkjcmcaaDoor.AL
