import Derived.Test.YtbnjijffkjcmcaaGreatDoorZW7
import Derived.Test.YtbnjijffkjcmcaaGreatDoorZW5
import Derived.Test.YtbnjijffkjcmcaaGreatDoorZAL4
/- What single functions compute: a part of the proof; no conditions. -/
set_option linter.unusedVariables false
set_option linter.unusedSimpArgs false
set_option maxRecDepth 100000
set_option linter.unusedSectionVars false
namespace Go.Proofs.YtbnjijffkjcmcaaGreatDoor.AL
open Go
attribute [local simp] qf cv qbin ibin sbin qun retPost rvOk ctV ctPost marksOk retV resAll resOf V.lt ltL V.ren renL V.exp V.exp1 cleanL V.clean closedL V.closed V.cells V.one V.tree
  loadV cellsAt isNC nilQ isSlD isIfD slNew ownRows ownCells V.isOwn slStore srcO qlook mlook mget mstr zval qnone qmake mput lmap isAggD placesOf fillV putCells lstore bound seqParts V.sh shL Blk.sh newV V.ok peqs peq srcRows qbytes byteSl appOk mmV mmR hidE V.fz fzL Blk.fz fzOk and_assoc
attribute [-simp] Int.not_le Int.not_lt Nat.not_le Nat.not_lt
open Go.RowKit Go.Sort in
theorem below_grown (w : World) (k : Nat) (os : Array Obj) : Below w.heap.size w (grow (w.drewN k) os) := Lib.below_grow _ w (Nat.le_refl _) k os
open Go.RowKit in
theorem below_bytes (w : World) (e : TypeId) (s : ByteArray) : Below w.heap.size w (Lib.bytesWorld w e s) := by
  refine ⟨rfl, rfl, rfl, ?_, fun j hj => Lib.bytesWorld_at_old w e s j hj⟩
  simp [Lib.bytesWorld, World.freeze, World.alloc, World.drew, -World.alloc_eq, -World.drew_eq]
theorem dec_bs {u : Nat} (h : u < 18446744073709551616) : (⟨(Lib.decDigits u).toArray⟩ : ByteArray) = bs (dgs 10 u) := by rw [decDigits_dgs u h]; rfl
noncomputable def SIto : List V → Option Res
  | [.int .i64 n] => ifC (0 ≤ n ∧ n < 9223372036854775808) (some ⟨.str (bs (dgs 10 n.toNat)), []⟩)
  | _ => none
theorem ito_at {n : Nat} (h : n < 9223372036854775808) : SIto [.int .i64 (n : Int)] = some ⟨.str (bs (dgs 10 n)), []⟩ := by
  simp only [SIto]; rw [ifC_pos ⟨by omega, by omega⟩]; rfl
theorem runs_Ito : ∀ args r, SIto args = some r → Runs Tryz.prog 30 args r := by
  intro args r hh
  unfold SIto ifC at hh
  split at hh
  · rename_i n
    split at hh
    · rename_i hn
      cases hh
      refine Runs.of_calls Tryz.func30 (by decide) rfl fun E us hG hr => ?_
      simp only [RL, R] at hr
      obtain ⟨_, _, rfl, rfl, rfl⟩ := hr
      obtain ⟨i, rfl⟩ := Int.eq_ofNat_of_zero_le hn.1
      refine ⟨.string (bs (dgs 10 i)), (Tryz.strconv_Itoa (i : Int) (by omega) (by omega) E.w (gok_tab hG)).mono ?_, fun E' => by simp [R]⟩
      rintro e w' ⟨rfl, k, os, rfl⟩
      refine ⟨?_, below_grown _ _ _⟩
      rw [Lib.itoa_nonneg, dec_bs (by omega)]
    · cases hh
  · cases hh
theorem runs_small : ∀ args r, SSmall args = some r → Runs Tryz.prog 77 args r := by
  intro args r hh
  unfold SSmall at hh
  split at hh
  · rename_i n
    split at hh
    · rename_i hn
      cases hh
      refine Runs.of_calls Tryz.func77 (by decide) rfl fun E us hG hr => ?_
      simp only [RL, R] at hr
      obtain ⟨_, _, rfl, rfl, rfl⟩ := hr
      obtain ⟨i, rfl⟩ := Int.eq_ofNat_of_zero_le hn.1
      refine ⟨.string (dig i), (Tryz.internal_strconv_small i (by omega) E.w).mono ?_, fun E' => by simp [R]⟩
      rintro e w' ⟨rfl, rfl⟩
      exact ⟨by simp [dig], RowKit.Below.refl _ _⟩
    · cases hh
  · cases hh
/-- FormatUint, in base 10 or 16. -/
noncomputable def SFu : List V → Option Res
  | [.int .u64 x, .int .i64 b] => ifC ((0 ≤ x ∧ x < 18446744073709551616) ∧ (b = 10 ∨ b = 16)) (some ⟨.str (bs (dgs b.toNat x.toNat)), []⟩)
  | _ => none
theorem hdg_dch {d : Nat} (h : d < 16) : UInt8.ofNat (hdg (d : Int)).toNat = dch d := by
  have key : ∀ k : Fin 16, UInt8.ofNat (hdg ((k.val : Nat) : Int)).toNat = dch k.val := by decide +kernel
  exact key ⟨d, h⟩
theorem hx_snoc (x : Nat) : ∀ k, hx x (k + 1) = hx (x / 16) k ++ [hdg ((x % 16 : Nat) : Int)]
  | 0 => by simp [hx]
  | k + 1 => by
    rw [hx, hx_snoc x k, hx]
    rw [Nat.div_div_eq_div_mul, Nat.pow_succ, Nat.mul_comm 16]
    rfl
def hexB (l : List Int) : List UInt8 := l.map fun n => UInt8.ofNat n.toNat
theorem foldl_push (l : List Int) : ∀ (a : ByteArray), (l.foldl (fun r n => r.push (UInt8.ofNat n.toNat)) a).data.toList = a.data.toList ++ hexB l := by
  induction l with
  | nil => intro a; simp [hexB]
  | cons x l ih => intro a; rw [List.foldl_cons, ih]; simp [hexB, ByteArray.push]
theorem hkF_fuel : ∀ (f g x : Nat), x < 16 ^ (f + 1) → x < 16 ^ (g + 1) → hkF f x = hkF g x
  | 0, g, x, h, _ => by rw [hk_end (by simpa using h), hk_end (by simpa using h)]
  | f + 1, 0, x, _, h => by rw [hk_end (by simpa using h), hk_end (by simpa using h)]
  | f + 1, g + 1, x, h1, h2 => by
    rw [hkF, hkF]
    split
    · rfl
    · rw [hkF_fuel f g (x / 16) (Nat.div_lt_of_lt_mul (by rw [Nat.pow_succ] at h1; omega)) (Nat.div_lt_of_lt_mul (by rw [Nat.pow_succ] at h2; omega))]
theorem hexL_dgs : ∀ x, x < 18446744073709551616 → hexB (hexL x) = dgs 16 x := by
  intro x
  induction x using Nat.strongRecOn with
  | _ x ih =>
    intro hx
    unfold hexL
    by_cases h : x < 16
    · rw [hk_end h, dgs_lt h]
      have := hdg_dch h
      simp [hx, hexB, AL.hx, Nat.mod_eq_of_lt h, this]
    · rw [hk_step (f := 15) (by omega), hx_snoc, dgs_step (by omega) hx (by omega), ← ih (x / 16) (by omega) (by omega)]
      unfold hexB hexL
      rw [List.map_append, hkF_fuel 15 16 (x / 16) (by omega) (by omega)]
      have := hdg_dch (Nat.mod_lt x (show 0 < 16 by decide))
      simp only [List.map_cons, List.map_nil, this]
theorem bOf_ints : ∀ l : List Int, l.map (bOf ∘ fun n => [V.int .u8 n]) = l
  | [] => rfl
  | x :: l => by rw [List.map_cons, bOf_ints l]; rfl
theorem hexS_bs {x : Nat} (h : x < 18446744073709551616) : hexS x = bs (dgs 16 x) := by
  apply ba_ext
  rw [bs_data, ← hexL_dgs x h]
  unfold hexS strR
  rw [List.map_map]
  have := foldl_push (hexL x) ByteArray.empty
  rw [bOf_ints, this]
  rfl
def M_f59 : Md := fun i => some #[]
@[simp] theorem M_f59_eq {i : Nat} : M_f59 i = (some #[]) := rfl
theorem runs_iFu : ∀ args r, SFu args = some r → Runs Tryz.prog 59 args r := by
  intro args r hh
  unfold SFu ifC at hh
  split at hh
  · rename_i n b
    split at hh
    · rename_i hin
      obtain ⟨⟨h0, h1⟩, hb⟩ := hin
      obtain ⟨u, rfl⟩ := Int.eq_ofNat_of_zero_le h0
      cases hh
      rcases hb with rfl | rfl
      · by_cases h100 : u < 100
        · have hT : (T0.add 77 SSmall).ok Tryz.prog := Tab.add_ok (T0_ok _) runs_small
          have w1 : IntKind.i64.wrap (u : Int) = u := wr_i64 (by omega) (by omega)
          have hs : SSmall [.int .i64 (u : Int)] = some ⟨.str (dig u), []⟩ := by
            simp only [SSmall]; rw [if_pos ⟨by omega, by omega⟩]
          have he : dig (u : Int) = bs (dgs 10 u) := by unfold dig; rw [Int.toNat_natCast, dec_bs (by omega)]
          have hlt : (u : Int) < 100 := by omega
          show Runs _ _ _ ⟨.str (bs (dgs 10 u)), []⟩
          generalize dgs 10 u = DD at *
          refine Runs.of_body Tryz.func59 (by decide) rfl (by simp [Tryz.f59]) ?_
          refine W.of_WE hT mixed M_f59 _ (by kernel_rfl) ?_
          simp [Tryz.f59, hs, hlt, h100, w1, he]
        · refine Runs.of_calls Tryz.func59 (by decide) rfl fun E us hG hr => ?_
          simp only [RL, R] at hr
          obtain ⟨_, _, rfl, rfl, _, _, rfl, rfl, rfl⟩ := hr
          refine ⟨.string (bs (dgs 10 u)), (fu10_calls u (by omega) (by omega) E.w (gok_tab hG)).mono ?_, fun E' => by simp [R]⟩
          rintro e w' ⟨rfl, k, os, rfl⟩
          exact ⟨by rw [dec_bs (by omega)], below_grown _ _ _⟩
      · refine runs_iFormatUint16 _ _ ?_
        rw [fu16_at (by omega), hexS_bs (by omega)]
        rfl
    · cases hh
  · cases hh
theorem runs_Fu : ∀ args r, SFu args = some r → Runs Tryz.prog 32 args r := by
  intro args r hh
  have h0 := hh
  unfold SFu ifC at hh
  split at hh
  · rename_i x b
    split at hh
    · rename_i hin
      cases hh
      have hT : (T0.add 59 SFu).ok Tryz.prog := Tab.add_ok (T0_ok _) runs_iFu
      generalize dgs b.toNat x.toNat = H at *
      refine Runs.of_body Tryz.func32 (by decide) rfl (by simp [Tryz.f32]) ?_
      refine W.of_WE hT mixed M0 _ (by kernel_rfl) ?_
      simp [Tryz.f32, h0]
    · cases hh
  · cases hh
theorem fu_at {x : Nat} {b : Nat} (h : x < 18446744073709551616) (hb : b = 10 ∨ b = 16) : SFu [.int .u64 (x : Int), .int .i64 (b : Int)] = some ⟨.str (bs (dgs b x)), []⟩ := by
  simp only [SFu]; rw [ifC_pos ⟨⟨by omega, by omega⟩, by omega⟩]; rfl
theorem runs_Join : ∀ args r, SJoin args = some r → Runs Tryz.prog 33 args r := by
  intro args r hh
  unfold SJoin at hh
  split at hh
  · rename_i rows sep
    split at hh
    · rename_i xs hxs
      split at hh
      · rename_i hn
        cases hh
        have h1 := parse_eq strOf_eq hxs
        subst h1
        refine Runs.of_calls Tryz.func33 (by decide) rfl fun E us hG hr => ?_
        simp only [RL, R] at hr
        obtain ⟨_, _, rfl, ⟨ad, cap, rfl, hc1, hc2, hrow⟩, _, _, rfl, rfl, rfl⟩ := hr
        refine ⟨.string (joinB xs sep), ?_, fun E' => by simp [R]⟩
        cases xs with
        | nil =>
          refine (Tryz.strings_Join_none ad cap sep E.w).mono ?_
          rintro e w' ⟨rfl, rfl⟩
          exact ⟨rfl, RowKit.Below.refl _ _⟩
        | cons x xs =>
          rcases hrow with hrow | ⟨g, o, rfl, hO, hg, hl, hrr⟩
          · simp at hrow
          · have hlen : (List.map (fun s => [V.str s]) (x :: xs)).length = (x :: xs).length := by simp
            rw [hlen] at hc1 hc2 ⊢
            refine (Tryz.strings_Join g o cap (x :: xs) sep E.w (strRows_cells hrr) hg hn.2 hc1 ?_).mono ?_
            · have : (joinB (x :: xs) sep).size = (Lib.join ((x :: xs).map (·.data.toList)) sep.data.toList).length := by simp [joinB, ByteArray.size]
              rw [← this]; exact hn.1
            · rintro e w' ⟨rfl, hb⟩
              exact ⟨rfl, hb⟩
      · cases hh
    · cases hh
  · cases hh
/-- Rows of strings, told by their bytes. -/
def bRows (ps : List (List UInt8)) : List (List V) := ps.map fun p => [.str (bs p)]
theorem bRows_str (ps : List (List UInt8)) : bRows ps = strRows (ps.map bs) := by simp [bRows, strRows]
theorem bRows_len (ps : List (List UInt8)) : (bRows ps).length = ps.length := by simp [bRows]
theorem joinB_bs (ps : List (List UInt8)) (sep : List UInt8) : joinB (ps.map bs) (bs sep) = bs (Lib.join ps sep) := by
  unfold joinB
  rw [List.map_map, bs_data]
  have : ((fun x : ByteArray => x.data.toList) ∘ bs) = id := by funext p; exact bs_data p
  rw [this, List.map_id]
  rfl
theorem join_at {ps : List (List UInt8)} {sep : List UInt8} (h : (Lib.join ps sep).length ≤ 140737488355328) (hl : ps.length ≤ 140737488355328) : SJoin [.rd 1 (bRows ps), .str (bs sep)] = some ⟨.str (bs (Lib.join ps sep)), []⟩ := by
  rw [bRows_str]
  simp only [SJoin, strRows_parse]
  rw [joinB_bs, if_pos ⟨by rw [bs_size]; exact h, by simpa using hl⟩]

end Go.Proofs.YtbnjijffkjcmcaaGreatDoor.AL
namespace Go.Proofs.YtbnjijffkjcmcaaGreatDoor.AL
open Go
attribute [local simp] qf cv qbin ibin sbin qun retPost rvOk ctV ctPost marksOk retV resAll resOf V.lt ltL V.ren renL V.exp V.exp1 cleanL V.clean closedL V.closed V.cells V.one V.tree
  loadV cellsAt isNC nilQ isSlD isIfD slNew ownRows ownCells V.isOwn slStore srcO qlook mlook mget mstr zval qnone qmake mput lmap isAggD placesOf fillV putCells lstore bound seqParts V.sh shL Blk.sh newV V.ok peqs peq srcRows qbytes byteSl appOk mmV mmR hidE V.fz fzL Blk.fz fzOk and_assoc
attribute [-simp] Int.not_le Int.not_lt Nat.not_le Nat.not_lt
/-! Reading numbers. -/
def errI : PEnd → V
  | .ok _ => .nilif
  | .synt => .iface 132 (.int .i64 2)
  | .over => .iface 132 (.int .i64 1)
def baseM (b w : Int) : Option (Nat × Nat) := if b = 10 ∧ w = 8 then some (10, 255) else if b = 10 ∧ w = 32 then some (10, 4294967295) else if b = 16 ∧ w = 16 then some (16, 65535) else none
def SPuI : List V → Option Res
  | [.str s, .int .i64 b, .int .i64 w] => match baseM b w with
    | some (c, M) => if s.size ≤ 281474976710656 then some ⟨.tup [.int .u64 ((pu c M s.data.toList).val M), errI (pu c M s.data.toList)], []⟩ else none
    | none => none
  | _ => none
theorem baseM_some {b w : Int} {c M : Nat} (h : baseM b w = some (c, M)) : (b = 10 ∧ w = 8 ∧ c = 10 ∧ M = 255) ∨ (b = 10 ∧ w = 32 ∧ c = 10 ∧ M = 4294967295) ∨ (b = 16 ∧ w = 16 ∧ c = 16 ∧ M = 65535) := by
  unfold baseM at h
  split at h
  · cases h; exact .inl ⟨by omega, by omega, rfl, rfl⟩
  · split at h
    · cases h; exact .inr (.inl ⟨by omega, by omega, rfl, rfl⟩)
    · split at h
      · cases h; exact .inr (.inr ⟨by omega, by omega, rfl, rfl⟩)
      · cases h
theorem R_puT {E : Env} {M : Nat} (e : PEnd) : R E (.tup [.int .u64 (e.val M), errI e]) (puTuple 132 M e) := by
  cases e <;> simp [R, RL, puTuple, errI, PEnd.val]
open Go.RowKit in
theorem below_or {w w' : World} {e : TypeId} {s : ByteArray} (h : w' = w ∨ w' = Lib.bytesWorld w e s) : Below w.heap.size w w' := by
  rcases h with rfl | rfl
  · exact Below.refl _ _
  · exact below_bytes _ _ _
theorem runs_PuI : ∀ args r, SPuI args = some r → Runs Tryz.prog 66 args r := by
  intro args r hh
  unfold SPuI at hh
  split at hh
  · rename_i s b w
    split at hh
    · rename_i c M hM
      split at hh
      · rename_i hsz
        cases hh
        refine Runs.of_calls Tryz.func66 (by decide) rfl fun E us hG hr => ?_
        simp only [RL, R] at hr
        obtain ⟨_, _, rfl, rfl, _, _, rfl, rfl, _, _, rfl, rfl, rfl⟩ := hr
        refine ⟨puTuple 132 M (pu c M s.data.toList), ?_, fun E' => R_puT _⟩
        rcases baseM_some hM with ⟨rfl, rfl, rfl, rfl⟩ | ⟨rfl, rfl, rfl, rfl⟩ | ⟨rfl, rfl, rfl, rfl⟩
        · refine (Tryz.internal_strconv_ParseUint_10_at8 s (by omega) E.w).mono ?_
          rintro e w' ⟨rfl, hw⟩
          refine ⟨?_, below_or hw⟩
          have := pu10_tuple 132 (B := 8) (M := 255) (by decide) (by decide) s.data.toList
          rw [← this]; rfl
        · refine (Tryz.internal_strconv_ParseUint_10_at32 s (by omega) E.w).mono ?_
          rintro e w' ⟨rfl, hw⟩
          refine ⟨?_, below_or hw⟩
          have := pu10_tuple 132 (B := 32) (M := 4294967295) (by decide) (by decide) s.data.toList
          rw [← this]; rfl
        · refine (internal_ParseUint_16_at16 { Tryz.laysPu14 with } s (by omega) E.w).mono ?_
          rintro e w' ⟨rfl, hw⟩
          exact ⟨rfl, below_or hw⟩
      · cases hh
    · cases hh
  · cases hh
def STe : List V → Option Res
  | [.str fn, .str s, .int .i64 _, .int .i64 _, .iface t (.int .i64 c)] => if s.size ≤ 281474976710656 ∧ t = 132 ∧ (c = 1 ∨ c = 2) then some ⟨.iface 135 .junk, []⟩ else none
  | _ => none
theorem cell_syn {E : Env} (h : GOK Tryz.prog E) : ∃ ev, E.w.cell? ⟨2, 0, none⟩ = some ev ∧ (ev = .nilIface ∨ ∃ te pe, ev = .iface te pe) := by
  have h1 := h.val 2
  rw [gv_syn] at h1
  simp only [R, RRow] at h1
  obtain ⟨g, o, e, _, _, _, ⟨v, hc, _, u, rfl, _⟩, _⟩ := h1
  cases e
  exact ⟨_, hc, .inr ⟨_, _, rfl⟩⟩
theorem cell_rng {E : Env} (h : GOK Tryz.prog E) : ∃ ev, E.w.cell? ⟨3, 0, none⟩ = some ev ∧ (ev = .nilIface ∨ ∃ te pe, ev = .iface te pe) := by
  have h1 := h.val 3
  rw [gv_rng] at h1
  simp only [R, RRow] at h1
  obtain ⟨g, o, e, _, _, _, ⟨v, hc, _, u, rfl, _⟩, _⟩ := h1
  cases e
  exact ⟨_, hc, .inr ⟨_, _, rfl⟩⟩
theorem cell_max {E : Env} (h : GOK Tryz.prog E) : ∃ m, E.w.cell? ⟨0, 0, none⟩ = some (.int .i64 m) := by
  have h1 := h.val 0
  rw [gv_max] at h1
  simp only [R, RRow] at h1
  obtain ⟨g, o, e, _, _, _, ⟨v, hc, _, u, rfl⟩, _⟩ := h1
  cases e
  exact ⟨_, hc⟩
/-- A contract that also says where the new block is. -/
theorem Runs.of_calls_if {P : Program} [Gl P] {f : FuncId} {fn : Func} {c : Code} (hf : P.funcs[f]? = some fn) (hn : fn.name ≠ "runtime.NumGoroutine") (hb : fn.body = some c) {args : List V} {v : V}
    (h : ∀ (E : Env) (us : List Value), GOK P E → RL E args us → Calls P f us.toArray E.w (fun e w' => ∃ u, (e = .returned u ∧ RowKit.Below E.w.heap.size E.w w') ∧ ∀ E', R E' v u)) : Runs P f args ⟨v, []⟩ := by
  intro E us hD hO hG hargs
  have hc := h E us hG hargs
  unfold CalledX
  rw [run_enter hf hn hb]
  refine Calls.mono hc ?_
  rintro e w' ⟨u, ⟨rfl, hb⟩, hr⟩
  exact ⟨⟨w', E.O, E.σ, fun _ => False⟩, rfl, ⟨fun b hb => hb.elim, hr _, ⟨fun b x hx => by simp [Res.hp] at hx, fun b b' x x' g hx => by simp [Res.hp] at hx⟩, ⟨hb.os, hb.tape, hb.output, hb.size, fun g hg => hb.block g hg, fun h => absurd h (by decide)⟩, fun g _ => Iff.rfl, fun g hg => Nat.lt_of_lt_of_le (hO g hg) hb.size⟩⟩
theorem runs_Te : ∀ args r, STe args = some r → Runs Tryz.prog 67 args r := by
  intro args r hh
  unfold STe at hh
  split at hh
  · rename_i fn s b w t c
    split at hh
    · rename_i hin
      obtain ⟨hsz, rfl, hc⟩ := hin
      cases hh
      refine Runs.of_calls_if Tryz.func67 (by decide) rfl fun E us hG hr => ?_
      simp only [RL, R] at hr
      obtain ⟨_, _, rfl, rfl, _, _, rfl, rfl, _, _, rfl, rfl, _, _, rfl, rfl, _, _, rfl, ⟨_, rfl, rfl⟩, rfl⟩ := hr
      rcases hc with rfl | rfl
      · obtain ⟨ev, h1, h2⟩ := cell_rng hG
        refine (Tryz.strconv_toError_range fn s b w ev E.w hsz h1 h2).mono ?_
        rintro e w' ⟨N, rfl, _, _, hb⟩
        exact ⟨_, ⟨rfl, hb⟩, fun E' => by simp [R]⟩
      · obtain ⟨ev, h1, h2⟩ := cell_syn hG
        refine (Tryz.strconv_toError_syntax fn s b w ev E.w hsz h1 h2).mono ?_
        rintro e w' ⟨N, rfl, _, _, hb⟩
        exact ⟨_, ⟨rfl, hb⟩, fun E' => by simp [R]⟩
    · cases hh
  · cases hh
def errP (e : PEnd) : V := if e.good then .nilif else .iface 135 .junk
def SPu : List V → Option Res
  | [.str s, .int .i64 b, .int .i64 w] => match baseM b w with
    | some (c, M) => if s.size ≤ 281474976710656 then some ⟨.tup [.int .u64 ((pu c M s.data.toList).val M), errP (pu c M s.data.toList)], []⟩ else none
    | none => none
  | _ => none
theorem pu_at {l : List UInt8} {b w : Int} {c M : Nat} (hM : baseM b w = some (c, M)) (h : l.length ≤ 281474976710656) : SPu [.str (bs l), .int .i64 b, .int .i64 w] = some ⟨.tup [.int .u64 (pv c M l), errP (pu c M l)], []⟩ := by
  simp only [SPu, hM, bs_size, bs_data]
  rw [if_pos h]
  rfl
def M_f41 : Md := fun i => some #[]
@[simp] theorem M_f41_eq {i : Nat} : M_f41 i = (some #[]) := rfl
theorem runs_Pu : ∀ args r, SPu args = some r → Runs Tryz.prog 41 args r := by
  intro args r hh
  unfold SPu at hh
  split at hh
  · rename_i s b w
    split at hh
    · rename_i c M hM
      split at hh
      · rename_i hsz
        cases hh
        have h1 : SPuI [.str s, .int .i64 b, .int .i64 w] = some ⟨.tup [.int .u64 ((pu c M s.data.toList).val M), errI (pu c M s.data.toList)], []⟩ := by
          simp only [SPuI, hM]; rw [if_pos hsz]
        have hT : ((T0.add 66 SPuI).add 67 STe).ok Tryz.prog := Tab.add_ok (Tab.add_ok (T0_ok _) runs_PuI) runs_Te
        generalize pu c M s.data.toList = e at *
        refine Runs.of_body Tryz.func41 (by decide) rfl (by simp [Tryz.f41]) ?_
        refine W.of_WE hT mixed M_f41 _ (by kernel_rfl) ?_
        cases e with
        | ok n => simp [Tryz.f41, h1, errI, errP, PEnd.val, PEnd.good]
        | synt => simp [Tryz.f41, h1, errI, errP, PEnd.val, PEnd.good, STe, hsz]
        | over => simp [Tryz.f41, h1, errI, errP, PEnd.val, PEnd.good, STe, hsz]
      · cases hh
    · cases hh
  · cases hh

end Go.Proofs.YtbnjijffkjcmcaaGreatDoor.AL
namespace Go.Proofs.YtbnjijffkjcmcaaGreatDoor.AL
open Go
attribute [local simp] qf cv qbin ibin sbin qun retPost rvOk ctV ctPost marksOk retV resAll resOf V.lt ltL V.ren renL V.exp V.exp1 cleanL V.clean closedL V.closed V.cells V.one V.tree
  loadV cellsAt isNC nilQ isSlD isIfD slNew ownRows ownCells V.isOwn slStore srcO qlook mlook mget mstr zval qnone qmake mput lmap isAggD placesOf fillV putCells lstore bound seqParts V.sh shL Blk.sh newV V.ok peqs peq srcRows qbytes byteSl appOk mmV mmR hidE V.fz fzL Blk.fz fzOk and_assoc
attribute [-simp] Int.not_le Int.not_lt Nat.not_le Nat.not_lt
/-! Searching and splitting. -/
def SIdx : List V → Option Res
  | [.str s, .str sep] => if sep.size ≠ 0 ∧ s.size < 4294967281 then some ⟨.int .i64 (Lib.index s.data.toList sep.data.toList), []⟩ else none
  | _ => none
theorem runs_Idx : ∀ args r, SIdx args = some r → Runs Tryz.prog 70 args r := by
  intro args r hh
  unfold SIdx at hh
  split at hh
  · rename_i s sep
    split at hh
    · rename_i hin
      cases hh
      refine Runs.of_calls Tryz.func70 (by decide) rfl fun E us hG hr => ?_
      simp only [RL, R] at hr
      obtain ⟨_, _, rfl, rfl, _, _, rfl, rfl, rfl⟩ := hr
      obtain ⟨m, hm⟩ := cell_max hG
      refine ⟨.int .i64 (Lib.index s.data.toList sep.data.toList), (Tryz.strings_Index s sep m E.w hin.2 hm).mono ?_, fun E' => by simp [R]⟩
      rintro e w' ⟨rfl, rfl⟩
      exact ⟨rfl, RowKit.Below.refl _ _⟩
    · cases hh
  · cases hh
def SCont : List V → Option Res
  | [.str s, .str sep] => match sep.data.toList with
    | [c] => some ⟨.bool (s.data.toList.contains c), []⟩
    | _ => none
  | _ => none
theorem cont_at {l : List UInt8} {c : UInt8} : SCont [.str (bs l), .str (bs [c])] = some ⟨.bool (l.contains c), []⟩ := by
  simp only [SCont, bs_data]
theorem runs_Cont : ∀ args r, SCont args = some r → Runs Tryz.prog 44 args r := by
  intro args r hh
  unfold SCont at hh
  split at hh
  · rename_i s sep
    split at hh
    · rename_i c hc
      cases hh
      refine Runs.of_calls Tryz.func44 (by decide) rfl fun E us hG hr => ?_
      simp only [RL, R] at hr
      obtain ⟨_, _, rfl, rfl, _, _, rfl, rfl, rfl⟩ := hr
      obtain rfl : sep = bs [c] := ba_ext (by rw [hc, bs_data])
      refine ⟨.bool (s.data.toList.contains c), (Tryz.strings_Contains_one s c E.w).mono ?_, fun E' => by simp [R]⟩
      rintro e w' ⟨rfl, rfl⟩
      exact ⟨by rw [contains_dec], RowKit.Below.refl _ _⟩
    · cases hh
  · cases hh
def SCutS : List V → Option Res
  | [.str s, .str sep] => if sep.size ≠ 0 ∧ s.size < 4294967281 then some ⟨.tup [.str (bs (Lib.cut s.data.toList sep.data.toList).1), .str (bs (Lib.cut s.data.toList sep.data.toList).2.1), .bool (Lib.cut s.data.toList sep.data.toList).2.2], []⟩ else none
  | _ => none
theorem cutS_at {l sep : List UInt8} (hs : sep ≠ []) (hl : l.length < 4294967281) : SCutS [.str (bs l), .str (bs sep)] = some ⟨.tup [.str (bs (Lib.cut l sep).1), .str (bs (Lib.cut l sep).2.1), .bool (Lib.cut l sep).2.2], []⟩ := by
  simp only [SCutS, bs_size, bs_data]
  rw [if_pos ⟨by simpa using hs, hl⟩]
theorem runs_CutS : ∀ args r, SCutS args = some r → Runs Tryz.prog 18 args r := by
  intro args r hh
  unfold SCutS at hh
  split at hh
  · rename_i s sep
    split at hh
    · rename_i hin
      cases hh
      refine Runs.of_calls Tryz.func18 (by decide) rfl fun E us hG hr => ?_
      simp only [RL, R] at hr
      obtain ⟨_, _, rfl, rfl, _, _, rfl, rfl, rfl⟩ := hr
      obtain ⟨m, hm⟩ := cell_max hG
      refine ⟨.tuple #[.string (bs (Lib.cut s.data.toList sep.data.toList).1), .string (bs (Lib.cut s.data.toList sep.data.toList).2.1), .bool (Lib.cut s.data.toList sep.data.toList).2.2], (Tryz.strings_Cut s sep m E.w hin.2 hm).mono ?_, fun E' => ?_⟩
      · rintro e w' ⟨rfl, n, rfl⟩
        exact ⟨rfl, below_drewN _ _⟩
      · simp [R, RL]
    · cases hh
  · cases hh
def SCutP : List V → Option Res
  | [.str s, .str p] => some ⟨.tup [.str (bs (Lib.trimPrefix s.data.toList p.data.toList)), .bool (Lib.hasPrefix s.data.toList p.data.toList)], []⟩
  | _ => none
/-- Nothing has turned but block c. -/
def ButS (c : Nat) (s s' : St) : Prop := s.nx ≤ s'.nx ∧ ∀ b, b < s.nx → b ≠ c → s'.hp b = s.hp b
/-- What the iterator over pieces does: for each piece it calls yield; the caller brings what it keeps true. -/
def SplC : Ct := fun vs s K _ => ∃ (b c1 c2 c3 : Nat) (sep l : List UInt8), vs = [.yld b, .ptr c1 0, .ptr c2 0, .ptr c3 0] ∧ s.hp c1 = some (.box 9 [.str (bs sep)]) ∧ s.hp c2 = some (.box 9 [.str (bs l)]) ∧ s.hp c3 = some (.box 3 [.int .i64 0]) ∧
  c1 < s.nx ∧ c2 < s.nx ∧ c3 < s.nx ∧ c1 ≠ c2 ∧ c3 ≠ c2 ∧ sep ≠ [] ∧ sep.length < 4294967281 ∧ l.length < 4294967281 ∧ ∃ I : Nat → St → Prop, I 0 s ∧
    (∀ k p s0 s', (pcs sep l)[k]? = some p → I k s0 → ButS c2 s0 s' → CallY Tryz.prog b s' [.str (bs p)]
      (fun v s'' => v = .bool true ∧ I (k + 1) s'' ∧ s'.nx ≤ s''.nx ∧ ∀ x, (x = c1 ∨ x = c2 ∨ x = c3) → s''.hp x = s'.hp x) noX) ∧
    (∀ s0 s', I (pcs sep l).length s0 → ButS c2 s0 s' → K (.tup []) s')
structure SAt (c1 c2 c3 : Nat) (sep : List UInt8) (L : List (List UInt8)) (I : Nat → St → Prop) (u : St) (k : Nat) (l : List UInt8) : Prop where
  h1 : u.hp c1 = some (.box 9 [.str (bs sep)])
  h2 : u.hp c2 = some (.box 9 [.str (bs l)])
  h3 : u.hp c3 = some (.box 3 [.int .i64 0])
  l1 : c1 < u.nx
  l2 : c2 < u.nx
  l3 : c3 < u.nx
  len : l.length < 4294967281
  inv : ∃ s0, I k s0 ∧ ButS c2 s0 u
  rest : L.drop k = pcs sep l
def splSt (b c1 c2 c3 : Nat) (u : St) : St := { tm := fun t => if t = 0 then .yld b else if t = 1 then .ptr c1 0 else if t = 2 then .ptr c2 0 else if t = 3 then .ptr c3 0 else .junk, hp := u.hp, nx := u.nx, nt := 52 }
@[simp] theorem splSt_tm {b c1 c2 c3 : Nat} {u : St} {t : Nat} : (splSt b c1 c2 c3 u).tm t = if t = 0 then .yld b else if t = 1 then .ptr c1 0 else if t = 2 then .ptr c2 0 else if t = 3 then .ptr c3 0 else .junk := rfl
@[simp] theorem splSt_hp {b c1 c2 c3 : Nat} {u : St} : (splSt b c1 c2 c3 u).hp = u.hp := rfl
@[simp] theorem splSt_nx {b c1 c2 c3 : Nat} {u : St} : (splSt b c1 c2 c3 u).nx = u.nx := rfl
@[simp] theorem splSt_nt {b c1 c2 c3 : Nat} {u : St} : (splSt b c1 c2 c3 u).nt = 52 := rfl
@[simp] theorem splSt_top {b c1 c2 c3 : Nat} {u : St} : (splSt b c1 c2 c3 u).top = true := rfl
@[simp] theorem splSt_df {b c1 c2 c3 : Nat} {u : St} : (splSt b c1 c2 c3 u).df = [] := rfl
@[simp] theorem splSt_kp {b c1 c2 c3 : Nat} {u : St} : (splSt b c1 c2 c3 u).kp = true := rfl
structure SI (c1 c2 c3 : Nat) (sep : List UInt8) (L : List (List UInt8)) (I : Nat → St → Prop) where
  u : St
  k : Nat
  l : List UInt8
  at' : SAt c1 c2 c3 sep L I u k l
theorem spl_wk {P : Program} [Gl P] {s' : St} (b c1 c2 c3 : Nat) (h0 : s'.tm 0 = .yld b) (h1 : s'.tm 1 = .ptr c1 0) (h2 : s'.tm 2 = .ptr c2 0) (h3 : s'.tm 3 = .ptr c3 0)
    (e2 : s'.nt = 52) (e3 : s'.top = true) (e4 : s'.df = []) (e5 : s'.kp = true) : Wk P s' (splSt b c1 c2 c3 s') := by
  refine Wk.le ⟨fun t => ?_, fun _ _ h => h, Nat.le_refl _, e2.symm, e3.symm, e4.symm, fun _ => e5⟩
  show (if t = 0 then V.yld b else if t = 1 then V.ptr c1 0 else if t = 2 then V.ptr c2 0 else if t = 3 then V.ptr c3 0 else .junk) = .junk ∨ _
  by_cases q0 : t = 0
  · subst q0; right; rw [h0]; rfl
  · by_cases q1 : t = 1
    · subst q1; right; rw [h1]; rfl
    · by_cases q2 : t = 2
      · subst q2; right; rw [h2]; rfl
      · by_cases q3 : t = 3
        · subst q3; right; rw [h3]; rfl
        · left; rw [if_neg q0, if_neg q1, if_neg q2, if_neg q3]

end Go.Proofs.YtbnjijffkjcmcaaGreatDoor.AL
namespace Go.Proofs.YtbnjijffkjcmcaaGreatDoor.AL
open Go
attribute [local simp] qf cv qbin ibin sbin qun retPost rvOk ctV ctPost marksOk retV resAll resOf V.lt ltL V.ren renL V.exp V.exp1 cleanL V.clean closedL V.closed V.cells V.one V.tree
  loadV cellsAt isNC nilQ isSlD isIfD slNew ownRows ownCells V.isOwn slStore srcO qlook mlook mget mstr zval qnone qmake mput lmap isAggD placesOf fillV putCells lstore bound seqParts V.sh shL Blk.sh newV V.ok peqs peq srcRows qbytes byteSl appOk mmV mmR hidE V.fz fzL Blk.fz fzOk and_assoc
attribute [-simp] Int.not_le Int.not_lt Nat.not_le Nat.not_lt
theorem spl_next {P : Program} [Gl P] {c1 c2 c3 : Nat} {sep : List UInt8} {L : List (List UInt8)} {I : Nat → St → Prop} {s' : St} (b : Nat) (d1 d2 d3 : Nat) (k : Nat) (l : List UInt8) (hk : k < L.length) (hw : SAt c1 c2 c3 sep L I s' (k + 1) l) (h0 : s'.tm 0 = .yld b) (h1 : s'.tm 1 = .ptr c1 0) (h2 : s'.tm 2 = .ptr c2 0) (h3 : s'.tm 3 = .ptr c3 0)
    (e2 : s'.nt = 52) (e3 : s'.top = true) (e4 : s'.df = []) (e5 : s'.kp = true) : ∃ j : SI c1 c2 c3 sep L I, Wk P s' (splSt b c1 c2 c3 j.u) ∧ L.length - j.k < L.length - k :=
  ⟨⟨s', k + 1, l, hw⟩, spl_wk b c1 c2 c3 h0 h1 h2 h3 e2 e3 e4 e5, by show L.length - (k + 1) < L.length - k; omega⟩
theorem spl1_ok {vs : List V} {s : St} {K X : V → St → Prop} (hh : SplC vs s K X) : CallW Tryz.prog 105 s vs K X := by
  obtain ⟨b, c1, c2, c3, sep, l, rfl, hb1, hb2, hb3, hl1, hl2, hl3, hn12, hn32, hsep, hsl, hll, I, hI0, hround, hfin⟩ := hh
  have hT : ((T0.add 70 SIdx).addY (Yself Tryz.prog)).ok Tryz.prog := Tab.addYself_ok (Tab.add_ok (T0_ok _) runs_Idx)
  have hsz : (bs sep).size = 0 ↔ False := by rw [bs_size]; simpa using hsep
  have hsz' : (bs sep).size = sep.length := bs_size sep
  have hsl0 : sep.length ≠ 0 := by simpa using hsep
  obtain ⟨L, hL⟩ : ∃ L, L = pcs sep l := ⟨_, rfl⟩
  rw [← hL] at hround hfin
  refine CallW.of_body Tryz.func105 (by decide) rfl (by simp [Tryz.f105]) ?_
  refine W.wk (s' := splSt b c1 c2 c3 s) ?_ ?_
  · refine Wk.le ⟨fun t => ?_, fun _ _ h => h, Nat.le_refl _, rfl, rfl, rfl, fun _ => rfl⟩
    right
    simp [St.enter, initTm]
    rcases t with _ | _ | _ | _ | t <;> simp
  refine W.seqE hT mixed M0 (by kernel_rfl) ?_
  simp [Tryz.f105, hb1, hsz', hsl0]
  refine W.seq (W.block (W.loop (ι := SI c1 c2 c3 sep L I) (fun i => splSt b c1 c2 c3 i.u) (fun i => L.length - i.k) ⟨{ s with nx := s.nx + 24 }, 0, l, ⟨hb1, hb2, hb3, Nat.lt_of_lt_of_le hl1 (Nat.le_add_right _ _), Nat.lt_of_lt_of_le hl2 (Nat.le_add_right _ _), Nat.lt_of_lt_of_le hl3 (Nat.le_add_right _ _), hll, ⟨s, hI0, Nat.le_add_right _ _, fun _ _ _ => rfl⟩, by rw [hL]; rfl⟩⟩ ?_ ?_))
  · exact Wk.le ⟨fun t => by
      by_cases q0 : t = 0
      · subst q0; right; simp
      · by_cases q1 : t = 1
        · subst q1; right; simp
        · by_cases q2 : t = 2
          · subst q2; right; simp
          · by_cases q3 : t = 3
            · subst q3; right; simp
            · left; simp [q0, q1, q2, q3], fun _ _ h => by simpa using h, by simp, by simp, by simp, by simp, fun _ => by simp⟩
  · rintro ⟨u, k, l, hu⟩
    have h1 := hu.h1
    have h2 := hu.h2
    have h3 := hu.h3
    have l1 := hu.l1
    have l2 := hu.l2
    have l3 := hu.l3
    have hlen := hu.len
    have hrest := hu.rest
    obtain ⟨s0, hI, hbut⟩ := hu.inv
    have hidx : SIdx [.str (bs l), .str (bs sep)] = some ⟨.int .i64 (ixO (cutG sep l)), []⟩ := by
      simp only [SIdx, bs_size, bs_data, index_cutG hsep]
      rw [if_pos ⟨hsl0, hlen⟩]
    cases hc : cutG sep l with
    | none =>
      rw [hc, ixO] at hidx
      rw [pcs_none hc] at hrest
      refine W.block (W.of_WE hT mixed M0 _ (by kernel_rfl) ?_)
      simp [Tryz.f105, h1, h2, h3, hidx]
      refine W.of_WE hT mixed M0 _ (by kernel_rfl) ?_
      simp [Tryz.f105, h1, h2, h3, hidx, Yself]
      have hk : L[k]? = some l := by
        have e : (L.drop k)[0]? = some l := by rw [hrest]; rfl
        simpa using e
      have hlL : L.length = k + 1 := by
        have e := congrArg List.length hrest
        simp at e
        omega
      obtain ⟨q1, q2⟩ := hbut
      refine CallY.mono (hround k l s0 _ hk hI ⟨?_, fun x hx hxc => ?_⟩) ?_ (fun _ _ h => h.elim)
      · simp; omega
      · simpa using q2 x hx hxc
      · rintro v s2 ⟨rfl, hI2, hn2, hkeep⟩
        refine hfin s2 _ (by rw [hlL]; exact hI2) ⟨?_, fun x hx hxc => ?_⟩
        · simp [St.unmark]
        · simp [St.unmark]
    | some p =>
      obtain ⟨a, r⟩ := p
      rw [hc, ixO] at hidx
      rw [pcs_some hsep hc] at hrest
      have hw := cutG_some hc
      have hwl := cutG_len hsep hc
      have hneg : ¬ ((a.length : Int) < 0) := by omega
      have hw1 : IntKind.i64.wrap (a.length : Int) = a.length := wr_i64 (by omega) (by omega)
      have htk : List.take a.length l = a := by rw [hw]; simp
      have hle : (a.length : Int) ≤ l.length := by omega
      have hk : L[k]? = some a := by
        have e : (L.drop k)[0]? = some a := by rw [hrest]; rfl
        simpa using e
      have hkl : k < L.length := (List.getElem?_eq_some_iff.1 hk).1
      obtain ⟨q1, q2⟩ := hbut
      refine W.block (W.seqE hT mixed M0 (by kernel_rfl) ?_)
      simp [Tryz.f105, h1, h2, h3, hidx]
      refine W.seqE hT mixed M0 (by kernel_rfl) ?_
      simp [Tryz.f105, h1, h2, h3, hneg]
      refine W.seqE hT mixed M0 (by kernel_rfl) ?_
      simp [Tryz.f105, h1, h2, h3, bs_size, bs_extract, hw1, htk, hle]
      refine W.seq (W.seqE hT mixed M0 (by kernel_rfl) ?_)
      simp [Yself]
      show CallY _ _ _ _ _ _
      refine CallY.mono (K := fun v s'' => v = .bool true ∧ I (k + 1) s'' ∧ u.nx ≤ s''.nx ∧ s''.hp c1 = u.hp c1 ∧ s''.hp c2 = u.hp c2 ∧ s''.hp c3 = u.hp c3) (X := noX) ?_ ?_ (fun _ _ h => h.elim)
      · refine CallY.mono (hround k a s0 _ hk hI ⟨?_, fun x hx hxc => ?_⟩) ?_ (fun _ _ h => h)
        · simp; omega
        · simpa using q2 x hx hxc
        · rintro v s2 ⟨rfl, hI2, hn2, hkeep⟩
          have g1 := hkeep c1 (.inl rfl)
          have g2 := hkeep c2 (.inr (.inl rfl))
          have g3 := hkeep c3 (.inr (.inr rfl))
          simp at g1 g2 g3 hn2
          exact ⟨rfl, hI2, by omega, g1, g2, g3⟩
      · rintro v s2 ⟨rfl, hI2, hn2, g1, g2, g3⟩
        rw [h1] at g1
        rw [h2] at g2
        rw [h3] at g3
        have hw2 : IntKind.i64.wrap ((a.length : Int) + sep.length) = a.length + sep.length := wr_i64 (by omega) (by omega)
        have hw3 : ((a.length : Int) + sep.length).toNat = a.length + sep.length := by omega
        have hle2 : (a.length : Int) + sep.length ≤ l.length := by omega
        have hp0 : (0 : Int) ≤ (a.length : Int) + sep.length := by omega
        have hdr : List.take (l.length - (a.length + sep.length)) (List.drop (a.length + sep.length) l) = r := by
          rw [show l.length - (a.length + sep.length) = r.length by omega]
          rw [hw, ← List.append_assoc, ← List.length_append, List.drop_left, List.take_length]
        simp [Tryz.f105]
        refine W.of_WE hT mixed M0 _ (by kernel_rfl) ?_
        simp
        refine W.of_WE hT mixed M0 _ (by kernel_rfl) ?_
        simp [g1, g2, g3, bs_size, bs_extract, hw2, hw3, hle2, hp0, hdr, hn12, hn32]
        refine spl_next b c1 c2 c3 k r hkl ⟨?_, ?_, ?_, ?_, ?_, ?_, ?_, ⟨s2, hI2, ?_, fun z hz hzc => ?_⟩, ?_⟩ ?_ ?_ ?_ ?_ ?_ ?_ ?_ ?_
        · simp [hn12, g1]
        · simp
        · simp [hn32, g3]
        · simp; omega
        · simp; omega
        · simp; omega
        · omega
        · simp; omega
        · simp [hzc]
        · have e2 : L.drop (k + 1) = (L.drop k).drop 1 := by rw [List.drop_drop]
          rw [e2, hrest]
          rfl
        all_goals simp
/-- The iterator, made. -/
def SSpl : List V → Option Res
  | [.str s, .str sep, .int .i64 n] => if n = 0 then some ⟨.fn 105 [] [.ptr 1 0, .ptr 0 0, .ptr 2 0], [.box 9 [.str s], .box 9 [.str sep], .box 3 [.int .i64 0]]⟩ else none
  | _ => none
theorem runs_splitSeq : ∀ args r, SSpl args = some r → Runs Tryz.prog 93 args r := by
  intro args r hh
  unfold SSpl at hh
  split at hh
  · split at hh
    · rename_i h
      subst h
      cases hh
      refine Runs.of_body Tryz.func93 (by decide) rfl (by simp [Tryz.f93]) ?_
      refine W.of_WE (T0_ok _) mixed M0 _ (by kernel_rfl) ?_
      simp [Tryz.f93]
      exact ⟨0, 8, by decide, 16, by decide, by decide, by simp, by simp, by simp, rfl, rfl, rfl⟩
    · cases hh
  · cases hh
def SSpQ : List V → Option Res
  | [.str s, .str sep] => some ⟨.fn 105 [] [.ptr 1 0, .ptr 0 0, .ptr 2 0], [.box 9 [.str s], .box 9 [.str sep], .box 3 [.int .i64 0]]⟩
  | _ => none
theorem runs_SplitSeq : ∀ args r, SSpQ args = some r → Runs Tryz.prog 69 args r := by
  intro args r hh
  unfold SSpQ at hh
  split at hh
  · cases hh
    have hT : (T0.add 93 SSpl).ok Tryz.prog := Tab.add_ok (T0_ok _) runs_splitSeq
    refine Runs.of_body Tryz.func69 (by decide) rfl (by simp [Tryz.f69]) ?_
    refine W.of_WE hT mixed M0 _ (by kernel_rfl) ?_
    simp [Tryz.f69, SSpl]
    exact ⟨24, 25, by decide, 26, by decide, by decide, by simp, by simp, by simp, rfl, rfl, rfl⟩
  · cases hh

end Go.Proofs.YtbnjijffkjcmcaaGreatDoor.AL
namespace Go.Proofs.YtbnjijffkjcmcaaGreatDoor.AL
open Go
attribute [local simp] qf cv qbin ibin sbin qun retPost rvOk ctV ctPost marksOk retV resAll resOf V.lt ltL V.ren renL V.exp V.exp1 cleanL V.clean closedL V.closed V.cells V.one V.tree
  loadV cellsAt isNC nilQ isSlD isIfD slNew ownRows ownCells V.isOwn slStore srcO qlook mlook mget mstr zval qnone qmake mput lmap isAggD placesOf fillV putCells lstore bound seqParts V.sh shL Blk.sh newV V.ok peqs peq srcRows qbytes byteSl appOk mmV mmR hidE V.fz fzL Blk.fz fzOk and_assoc
attribute [-simp] Int.not_le Int.not_lt Nat.not_le Nat.not_lt
/-! Fields in hexadecimal. -/
theorem errP_or (e : PEnd) : errP e = .nilif ∨ errP e = .iface 135 .junk := by unfold errP; split; exact .inl rfl; exact .inr rfl
theorem spq_at (l : List UInt8) (c : UInt8) : SSpQ [.str (bs l), .str ⟨#[c]⟩] = some ⟨.fn 105 [] [.ptr 1 0, .ptr 0 0, .ptr 2 0], [.box 9 [.str (bs l)], .box 9 [.str ⟨#[c]⟩], .box 3 [.int .i64 0]]⟩ := rfl
theorem fresh_hi {x n : Nat} (h : x < n) : (x = n + 8 + 8 + 8 + 8 + 8 + 8 + 8 + 8 + 8) = False ∧ (n + 8 + 8 + 8 + 8 + 8 + 8 + 8 + 8 + 8 = x) = False ∧ (x < n + 8 + 8 + 8 + 8 + 8 + 8 + 8 + 8 + 8) = True ∧ (x = n + 8 + 8 + 8 + 8 + 8 + 8 + 8 + 8 + 8 + 8) = False ∧ (n + 8 + 8 + 8 + 8 + 8 + 8 + 8 + 8 + 8 + 8 = x) = False ∧ (x < n + 8 + 8 + 8 + 8 + 8 + 8 + 8 + 8 + 8 + 8) = True ∧ (x = n + 8 + 8 + 8 + 8 + 8 + 8 + 8 + 8 + 8 + 8 + 8) = False ∧ (n + 8 + 8 + 8 + 8 + 8 + 8 + 8 + 8 + 8 + 8 + 8 = x) = False ∧ (x < n + 8 + 8 + 8 + 8 + 8 + 8 + 8 + 8 + 8 + 8 + 8) = True ∧ (x = n + 8 + 8 + 8 + 8 + 8 + 8 + 8 + 8 + 8 + 8 + 8 + 8) = False ∧ (n + 8 + 8 + 8 + 8 + 8 + 8 + 8 + 8 + 8 + 8 + 8 + 8 = x) = False ∧ (x < n + 8 + 8 + 8 + 8 + 8 + 8 + 8 + 8 + 8 + 8 + 8 + 8) = True ∧ (x = n + 8 + 8 + 8 + 8 + 8 + 8 + 8 + 8 + 8 + 8 + 8 + 8 + 8) = False ∧ (n + 8 + 8 + 8 + 8 + 8 + 8 + 8 + 8 + 8 + 8 + 8 + 8 + 8 = x) = False ∧ (x < n + 8 + 8 + 8 + 8 + 8 + 8 + 8 + 8 + 8 + 8 + 8 + 8 + 8) = True ∧ (x = n + 8 + 8 + 8 + 8 + 8 + 8 + 8 + 8 + 8 + 8 + 8 + 8 + 8 + 8) = False ∧ (n + 8 + 8 + 8 + 8 + 8 + 8 + 8 + 8 + 8 + 8 + 8 + 8 + 8 + 8 = x) = False ∧ (x < n + 8 + 8 + 8 + 8 + 8 + 8 + 8 + 8 + 8 + 8 + 8 + 8 + 8 + 8) = True := by
  refine ⟨?_, ?_, ?_, ?_, ?_, ?_, ?_, ?_, ?_, ?_, ?_, ?_, ?_, ?_, ?_, ?_, ?_, ?_⟩ <;> (apply propext; constructor <;> intro <;> first | trivial | omega)
def uRows (L : List Nat) : List (List V) := L.map fun x : Nat => [.int .u64 (x : Int)]
@[simp] theorem uRows_len (L : List Nat) : (uRows L).length = L.length := by simp [uRows]
/-- What a loop has gathered so far: block 0 leads to it. -/
def OutF (m : Nat) (rows : List (List V)) (u : St) : Prop := (rows = [] ∧ u.hp 0 = some (.box 84 [.nils])) ∨ ∃ o, m ≤ o ∧ o < u.nx ∧ u.hp 0 = some (.box 84 [.own o]) ∧ u.hp o = some (.sl 1 22 rows)
def SFields : List V → Option Res
  | [.str s] => if s.size < 1000000 then (if s.data.toList = [] then some ⟨.nils, []⟩ else some ⟨.own 0, [.sl 1 22 (uRows (fieldsL s.data.toList))]⟩) else none
  | _ => none
theorem runs_fields : ∀ args r, SFields args = some r → Runs Tryz.prog 71 args r := by
  intro args r hh
  unfold SFields at hh
  split at hh
  · rename_i s0
    obtain ⟨l, rfl⟩ := bs_ex s0
    rw [bs_size, bs_data] at hh
    have hT : ((T0.add 69 SSpQ).add 41 SPu).ok Tryz.prog := Tab.add_ok (Tab.add_ok (T0_ok _) runs_SplitSeq) runs_Pu
    split at hh
    · rename_i hlen
      split at hh
      · rename_i hs
        subst hs
        cases hh
        refine Runs.of_body Tryz.func71 (by decide) rfl (by simp [Tryz.f71]) ?_
        refine W.seqE hT mixed M0 (by kernel_rfl) ?_
        simp [Tryz.f71]
        refine W.seqE hT mixed M0 (by kernel_rfl) ?_
        simp [Tryz.f71]
        refine W.cut False [] [] 22 ?_ (fun h => h.elim)
        refine W.of_WE hT mixed M0 _ (by kernel_rfl) ?_
        simp [Tryz.f71, bs_toList]
      · rename_i hs
        cases hh
        refine Runs.of_body Tryz.func71 (by decide) rfl (by simp [Tryz.f71]) ?_
        have hne : ¬ (bs l).toList = [] := by rw [bs_toList]; exact hs
        have hq := spq_at l 58
        refine W.seqE hT mixed M0 (by kernel_rfl) ?_
        simp [Tryz.f71]
        refine W.seqE hT mixed M0 (by kernel_rfl) ?_
        simp [Tryz.f71]
        refine W.seqE hT mixed M0 (by kernel_rfl) ?_
        simp [Tryz.f71, bs_toList, hs]
        refine W.seq (W.cut True [(3, .ptr 0 0), (10, .fn 105 [] [.ptr 2 0, .ptr 1 0, .ptr 3 0])] [.box 84 [.nils], .box 9 [.str (bs l)], .box 9 [.str ⟨#[58]⟩], .box 3 [.int .i64 0]] 22 ?_ ?_)
        · refine W.of_WE hT mixed M0 _ (by kernel_rfl) ?_
          simp [Tryz.f71, hq]
        intro _
        have hlL : (pcs [58] l).length ≤ 1000000 := by
          rw [pcs_spl]
          have := spl_len 58 l
          omega
        have hvals : (spl 58 l).map (pv 16 65535) = fieldsL l := by unfold fieldsL; rw [if_neg hs]
        refine W.block (W.rangeFunc' (n := 4) (by simp) (gf := 105) (fi := []) (caps := [.ptr 2 0, .ptr 1 0, .ptr 3 0]) (by simp) (by simp) Tryz.func105 (by decide) rfl ?_)
        intro fn Lp hLp
        refine spl1_ok ⟨5, 2, 1, 3, [58], l, rfl, by simp; rfl, by simp, by simp, by simp, by simp, by simp, by decide, by decide, by simp, by decide, by omega, fun k u => OutF 6 (uRows (((pcs [58] l).take k).map (pv 16 65535))) u ∧ u.hp 5 = some (Lp .ready none) ∧ u.hp 4 = some (.obj (.deferred (some []))) ∧ 6 ≤ u.nx, ?_, ?_, ?_⟩
        · simp [OutF, uRows]
        · intro k p s0 s' hp hI hbut
          obtain ⟨hout, hb5, hb4, hn6⟩ := hI
          obtain ⟨hbn, hbo⟩ := hbut
          have e5 : s'.hp 5 = some (Lp .ready none) := by rw [hbo 5 (by omega) (by decide)]; exact hb5
          have e4 : s'.hp 4 = some (.obj (.deferred (some []))) := by rw [hbo 4 (by omega) (by decide)]; exact hb4
          have e0 : s'.hp 0 = s0.hp 0 := hbo 0 (by omega) (by decide)
          have htk : uRows (((pcs [58] l).take (k + 1)).map (pv 16 65535)) = uRows (((pcs [58] l).take k).map (pv 16 65535)) ++ [[.int .u64 (pv 16 65535 p : Int)]] := by
            rw [List.take_add_one, hp]; simp [uRows]
          have hlen2 : (uRows (((pcs [58] l).take k).map (pv 16 65535))).length ≤ 1000000 := by simp; omega
          have hpl : p.length ≤ 1000000 := by
            rw [pcs_spl] at hp
            have := spl_part 58 l p (List.mem_of_getElem? hp)
            omega
          have hpu := pu_at (l := p) (b := 16) (w := 16) (c := 16) (M := 65535) rfl (by omega)
          have herr := errP_or (pu 16 65535 p)
          simp only [htk]
          generalize uRows (((pcs [58] l).take k).map (pv 16 65535)) = rows at hout hlen2 ⊢
          generalize errP (pu 16 65535 p) = EV at hpu herr
          generalize pv 16 65535 p = PV at hpu ⊢
          refine CallY.of_loop' hLp e5 rfl (by simp) ?_
          refine W.of_WE hT mixed M0 _ (by kernel_rfl) ?_
          have z5 := fresh_ne (show 5 < s'.nx by omega)
          have z0 := fresh_ne (show 0 < s'.nx by omega)
          have z4 := fresh_ne (show 4 < s'.nx by omega)
          have z1 := fresh_ne (show 1 < s'.nx by omega)
          have z2 := fresh_ne (show 2 < s'.nx by omega)
          have z3 := fresh_ne (show 3 < s'.nx by omega)
          have y5 := fresh_hi (show 5 < s'.nx by omega)
          have y0 := fresh_hi (show 0 < s'.nx by omega)
          have y4 := fresh_hi (show 4 < s'.nx by omega)
          have y1 := fresh_hi (show 1 < s'.nx by omega)
          have y2 := fresh_hi (show 2 < s'.nx by omega)
          have y3 := fresh_hi (show 3 < s'.nx by omega)
          rcases hout with ⟨hr, h0⟩ | ⟨o, ho6, ho, h0, hob⟩
          · rw [h0] at e0
            simp [e5, z5]
            refine W.of_WE hT mixed M0 _ (by kernel_rfl) ?_
            rcases herr with rfl | rfl
            all_goals
              simp [e5, e4, e0, z5, z4, z0, z1, z2, z3, y5, y4, y0, y1, y2, y3, hpu]
              subst hr
              exact ⟨.inr ⟨s'.nx + 8 + 8 + 8 + 8 + 8 + 8 + 8 + 8 + 8 + 8 + 8, by omega, by simp, by simp [z0, z5, y0, y5], by simp [z0, z5, y0, y5]⟩, by omega⟩
          · rw [h0] at e0
            have eo : s'.hp o = some (.sl 1 22 rows) := by rw [hbo o ho (by omega)]; exact hob
            have zo := fresh_ne (show o < s'.nx by omega)
            have yo := fresh_hi (show o < s'.nx by omega)
            simp [e5, z5]
            refine W.of_WE hT mixed M0 _ (by kernel_rfl) ?_
            rcases herr with rfl | rfl
            all_goals
              simp [e5, e4, e0, eo, z5, z4, z0, z1, z2, z3, zo, y5, y4, y0, y1, y2, y3, yo, hpu, show ¬ o = 0 by omega, show ¬ 0 = o by omega, show ¬ o = 5 by omega, show ¬ 5 = o by omega, show ¬ o = 4 by omega, show ¬ 4 = o by omega, show ¬ o = 1 by omega, show ¬ 1 = o by omega, show ¬ o = 2 by omega, show ¬ 2 = o by omega, show ¬ o = 3 by omega, show ¬ 3 = o by omega]
              exact ⟨by omega, by omega, .inr ⟨s'.nx + 8 + 8 + 8 + 8 + 8 + 8 + 8 + 8 + 8 + 8 + 8, by omega, by simp, by simp [z0, z5, y0, y5, zo, yo, show ¬ o = 0 by omega, show ¬ o = 5 by omega, show ¬ 0 = o by omega, show ¬ 5 = o by omega], by simp [z0, z5, y0, y5, zo, yo, show ¬ o = 0 by omega, show ¬ o = 5 by omega]⟩, by omega⟩
        · intro s0 s' hI hbut
          obtain ⟨hout, hb5, hb4, hn6⟩ := hI
          obtain ⟨hbn, hbo⟩ := hbut
          have e5 : s'.hp 5 = some (Lp .ready none) := by rw [hbo 5 (by omega) (by decide)]; exact hb5
          have e4 : s'.hp 4 = some (.obj (.deferred (some []))) := by rw [hbo 4 (by omega) (by decide)]; exact hb4
          have e0 : s'.hp 0 = s0.hp 0 := hbo 0 (by omega) (by decide)
          rw [List.take_length, pcs_spl, hvals] at hout
          have hne2 : uRows (fieldsL l) ≠ [] := by
            rw [← hvals]
            have := spl_ne 58 l
            simp [uRows, this]
          obtain ⟨o, ho6, ho, h0, hob⟩ := hout.resolve_left (fun h => hne2 h.1)
          rw [h0] at e0
          have eo : s'.hp o = some (.sl 1 22 (uRows (fieldsL l))) := by rw [hbo o ho (by omega)]; exact hob
          refine ⟨.ready, none, e5, by simp, ?_⟩
          show W _ _ _ _
          refine W.of_WE hT mixed M0 _ (by kernel_rfl) ?_
          simp [e0, e4, eo]
          exact ⟨o, by omega, by omega, eo, rfl⟩
    · cases hh
  · cases hh

end Go.Proofs.YtbnjijffkjcmcaaGreatDoor.AL
namespace Go.Proofs.YtbnjijffkjcmcaaGreatDoor.AL
open Go
/-! A result told as one that is only read. -/
section
variable {P : Program} [Gl P] {f : FuncId} {args : List V}
theorem CalledX.mono {g : FuncId} {us : List Value} {w : World} {R R' : Value → World → Prop} {X X' : List PanicEntry → World → Prop} (x : CalledX P g us w R X) (h : ∀ v w, R v w → R' v w) (k : ∀ c w, X c w → X' c w) : CalledX P g us w R' X' := NextX.mono h k x
theorem Runs.weakR {x x' : V} (h : ∀ (E : Env) (v : Value), R E x v → R E x' v) (hr : Runs P f args ⟨x, []⟩) : Runs P f args ⟨x', []⟩ := fun E vs h1 h2 h3 h4 =>
  (hr E vs h1 h2 h3 h4).mono (fun v w' ⟨E', e, hp⟩ => ⟨E', e, ⟨hp.D, h E' v hp.R, hp.hp, hp.ev, hp.O, hp.Oz⟩⟩) (fun _ _ h => h)
theorem Runs.frz {sz : Nat} {ty : TypeId} {rows : List (List V)} (hr : Runs P f args ⟨.own 0, [.sl sz ty rows]⟩) : Runs P f args ⟨.rd sz rows, []⟩ := by
  intro E vs h1 h2 h3 h4
  refine (hr E vs h1 h2 h3 h4).mono (fun v w' ⟨E', e, hp⟩ => ?_) (fun _ _ h => h)
  obtain ⟨hD, hB⟩ := hp.hp.blk 0 (.sl sz ty rows) rfl
  obtain ⟨E1, hE1⟩ : ∃ E1 : Env, E1 = { E' with O := fun g => E'.O g ∧ blkOf (E'.σ 0) ≠ some g } := ⟨_, rfl⟩
  have hw : E1.w = E'.w := by subst hE1; rfl
  have hO : ∀ g, E1.O g ↔ E'.O g ∧ blkOf (E'.σ 0) ≠ some g := fun g => by subst hE1; exact Iff.rfl
  have hσ : E1.σ = E'.σ := by subst hE1; rfl
  have hD1 : E1.D = E'.D := by subst hE1; rfl
  have hle : E'.le E1 := ⟨fun b h => by rw [hD1]; exact h, fun b _ => by rw [hσ], by rw [hw]; exact Nat.le_refl _, fun g hg h => ⟨by rw [hw], fun h' => h ((hO g).1 h').1⟩⟩
  have hnO : ∀ g, blkOf (E'.σ 0) = some g → ¬ E1.O g := fun g hg h => ((hO g).1 h).2 hg
  have hR := R.fz (F := fun g => g < E.w.heap.size) (b := 0) (x := .sl sz ty rows) hle hB (by simp [fzOk]) hnO hw _ _ hp.R
  have hR1 : R E1 (.rd sz rows) v := by simpa [V.fz] using hR
  obtain ⟨E2, hE2⟩ : ∃ E2 : Env, E2 = { E1 with D := fun _ => False } := ⟨_, rfl⟩
  have hw2 : E2.w = E1.w := by subst hE2; rfl
  have hO2 : E2.O = E1.O := by subst hE2; rfl
  have hle2 : E1.le0 E2 := ⟨by rw [hw2]; exact Nat.le_refl _, fun g hg h => ⟨by rw [hw2], by rw [hO2]; exact h⟩⟩
  refine ⟨E2, by rw [hw2, hw, e], ⟨fun b hb => ?_, R.clean hle2 _ _ rfl hR1, ⟨fun b x hx => by simp [Res.hp] at hx, fun b b' x x' g hx => by simp [Res.hp] at hx⟩, by rw [hw2, hw]; exact hp.ev, fun g hg => ?_, fun g hg => ?_⟩⟩
  · subst hE2; exact hb.elim
  · rw [hO2, hO, hp.O g hg]
    exact ⟨fun h => h.1, fun h => ⟨h, fun hb => (hB.own hb).1 hg⟩⟩
  · rw [hO2, hO] at hg
    rw [hw2, hw]
    exact hp.Oz g hg.1
end
end Go.Proofs.YtbnjijffkjcmcaaGreatDoor.AL
namespace Go.Proofs.YtbnjijffkjcmcaaGreatDoor.AL
open Go
attribute [local simp] qf cv qbin ibin sbin qun retPost rvOk ctV ctPost marksOk retV resAll resOf V.lt ltL V.ren renL V.exp V.exp1 cleanL V.clean closedL V.closed V.cells V.one V.tree
  loadV cellsAt isNC nilQ isSlD isIfD slNew ownRows ownCells V.isOwn slStore srcO qlook mlook mget mstr zval qnone qmake mput lmap isAggD placesOf fillV putCells lstore bound seqParts V.sh shL Blk.sh newV V.ok peqs peq srcRows qbytes byteSl appOk mmV mmR hidE V.fz fzL Blk.fz fzOk and_assoc
attribute [-simp] Int.not_le Int.not_lt Nat.not_le Nat.not_lt
def SFldR : List V → Option Res
  | [.str s] => if s.size < 1000000 then some ⟨.rd 1 (uRows (fieldsL s.data.toList)), []⟩ else none
  | _ => none
theorem fld_at {l : List UInt8} (h : l.length < 1000000) : SFldR [.str (bs l)] = some ⟨.rd 1 (uRows (fieldsL l)), []⟩ := by
  simp only [SFldR, bs_size, bs_data]
  rw [if_pos h]
theorem runs_fldR : ∀ args r, SFldR args = some r → Runs Tryz.prog 71 args r := by
  intro args r hh
  unfold SFldR at hh
  split at hh
  · rename_i s
    split at hh
    · rename_i hl
      cases hh
      by_cases hs : s.data.toList = []
      · have h1 : SFields [.str s] = some ⟨.nils, []⟩ := by simp only [SFields]; rw [if_pos hl, if_pos hs]
        have e : fieldsL s.data.toList = [] := by unfold fieldsL; rw [if_pos hs]
        rw [e]
        exact Runs.weakR (fun E v h => R_nils_rd 1 h) (runs_fields _ _ h1)
      · have h1 : SFields [.str s] = some ⟨.own 0, [.sl 1 22 (uRows (fieldsL s.data.toList))]⟩ := by simp only [SFields]; rw [if_pos hl, if_neg hs]
        exact Runs.frz (runs_fields _ _ h1)
    · cases hh
  · cases hh
/-! Groups put together. -/
theorem bOr_u64 {a b : Nat} (ha : a < 18446744073709551616) (hb : b < 18446744073709551616) : bOr .u64 (a : Int) (b : Int) = ((a ||| b : Nat) : Int) := by
  unfold bOr
  have e : ∀ x : Nat, x < 18446744073709551616 → (BitVec.ofInt (IntKind.u64).bits (x : Int)).toNat = x := by
    intro x h
    rw [BitVec.toNat_ofInt]
    show ((x : Int) % ((2 ^ 64 : Nat) : Int)).toNat = x
    omega
  rw [BitVec.toNat_or, e a ha, e b hb]
  have h2 : a ||| b < 2 ^ 64 := Nat.or_lt_two_pow (by omega) (by omega)
  rw [wr_u64 (by omega) (by omega)]
theorem or_add {a b : Nat} (i : Nat) (hb : b < 2 ^ i) : (a * 2 ^ i) ||| b = a * 2 ^ i + b := by
  rw [← Nat.shiftLeft_eq, ← Nat.shiftLeft_add_eq_or_of_lt hb]
theorem put_high {h l : Nat} (hh : h < 18446744073709551616) (hl : l < 18446744073709551616) : bOr .u64 (bShl .u64 (h : Int) 16) (bShr .u64 (l : Int) 48) = (((h * 65536 + l / 281474976710656) % 18446744073709551616 : Nat) : Int) := by
  have e1 : bShl .u64 (h : Int) 16 = ((h % 281474976710656 * 65536 : Nat) : Int) := by
    have := bShl_nat (x := (h : Int)) (k := 16) (by omega)
    rw [show ((16 : Nat) : Int) = 16 by rfl] at this
    rw [this, wrap_u64, show ((2 : Int) ^ 16) = 65536 by rfl]
    omega
  have e2 : bShr .u64 (l : Int) 48 = ((l / 281474976710656 : Nat) : Int) := by
    have := bShr_nat (x := (l : Int)) (k := 48) (by omega)
    rw [show ((48 : Nat) : Int) = 48 by rfl] at this
    rw [this, show ((2 : Int) ^ 48) = 281474976710656 by rfl]
    omega
  rw [e1, e2, bOr_u64 (by omega) (by omega)]
  have := or_add (a := h % 281474976710656) (b := l / 281474976710656) 16 (by show l / 281474976710656 < 65536; omega)
  rw [show (2 : Nat) ^ 16 = 65536 by rfl] at this
  rw [this]
  omega
theorem put_low {l x : Nat} (hx : x < 65536) : bOr .u64 (bShl .u64 (l : Int) 16) (x : Int) = ((l * 65536 % 18446744073709551616 + x : Nat) : Int) := by
  have e1 : bShl .u64 (l : Int) 16 = ((l % 281474976710656 * 65536 : Nat) : Int) := by
    have := bShl_nat (x := (l : Int)) (k := 16) (by omega)
    rw [show ((16 : Nat) : Int) = 16 by rfl] at this
    rw [this, wrap_u64, show ((2 : Int) ^ 16) = 65536 by rfl]
    omega
  rw [e1, bOr_u64 (by omega) (by omega)]
  have := or_add (a := l % 281474976710656) (b := x) 16 (by show x < 65536; omega)
  rw [show (2 : Nat) ^ 16 = 65536 by rfl] at this
  rw [this]
  omega
theorem st4_eq {l x : Nat} (hl : l < 4294967296) (hx : x < 256) : bAnd .u64 (bOr .u64 (bShl .u64 (l : Int) 8) (x : Int)) 4294967295 = (((l * 256 + x) % 4294967296 : Nat) : Int) := by
  have e1 : bShl .u64 (l : Int) 8 = ((l * 256 : Nat) : Int) := by
    have := bShl_nat (x := (l : Int)) (k := 8) (by omega)
    rw [show ((8 : Nat) : Int) = 8 by rfl] at this
    rw [this, wrap_u64, show ((2 : Int) ^ 8) = 256 by rfl]
    omega
  rw [e1, bOr_u64 (by omega) (by omega)]
  have := or_add (a := l) (b := x) 8 (by show x < 256; omega)
  rw [show (2 : Nat) ^ 8 = 256 by rfl] at this
  rw [this, bAnd_u64' (by omega) (by omega) (by omega) (by omega)]
  rw [Int.toNat_natCast, show (4294967295 : Int).toNat = 2 ^ 32 - 1 by rfl, Nat.and_two_pow_sub_one_eq_mod]
def adV (p : Nat × Nat) : V := .agg [.int .u64 (p.1 : Int), .int .u64 (p.2 : Int)]
noncomputable def SPut : List V → Option Res
  | [.agg [.int .u64 h, .int .u64 l], .int .u64 x] => ifC ((0 ≤ h ∧ h < 18446744073709551616) ∧ (0 ≤ l ∧ l < 18446744073709551616) ∧ 0 ≤ x ∧ x < 65536) (some ⟨adV (putN (h.toNat, l.toNat) x.toNat), []⟩)
  | _ => none
theorem put_at {p : Nat × Nat} {x : Nat} (h1 : p.1 < 18446744073709551616) (h2 : p.2 < 18446744073709551616) (hx : x < 65536) : SPut [.agg [.int .u64 (p.1 : Int), .int .u64 (p.2 : Int)], .int .u64 (x : Int)] = some ⟨.agg [.int .u64 ((putN p x).1 : Int), .int .u64 ((putN p x).2 : Int)], []⟩ := by
  simp only [SPut]
  rw [ifC_pos ⟨by omega, by omega, by omega⟩]
  rfl
theorem runs_put : ∀ args r, SPut args = some r → Runs Tryz.prog 72 args r := by
  intro args r hh
  unfold SPut ifC at hh
  split at hh
  · rename_i h0 l0 x0
    split at hh
    · rename_i hin
      obtain ⟨⟨a1, a2⟩, ⟨a3, a4⟩, a5, a6⟩ := hin
      obtain ⟨h, rfl⟩ := Int.eq_ofNat_of_zero_le a1
      obtain ⟨l, rfl⟩ := Int.eq_ofNat_of_zero_le a3
      obtain ⟨x, rfl⟩ := Int.eq_ofNat_of_zero_le a5
      cases hh
      have g1 := put_high (h := h) (l := l) (by omega) (by omega)
      have g2 := put_low (l := l) (x := x) (by omega)
      show Runs _ _ _ ⟨.agg [.int .u64 (((h * 65536 + l / 281474976710656) % 18446744073709551616 : Nat) : Int), .int .u64 ((l * 65536 % 18446744073709551616 + x : Nat) : Int)], []⟩
      generalize (((h * 65536 + l / 281474976710656) % 18446744073709551616 : Nat) : Int) = X at g1 ⊢
      generalize ((l * 65536 % 18446744073709551616 + x : Nat) : Int) = Y at g2 ⊢
      refine Runs.of_body Tryz.func72 (by decide) rfl (by simp [Tryz.f72]) ?_
      refine W.of_WE (T0_ok _) mixed M0 _ (by kernel_rfl) ?_
      simp [Tryz.f72, g1, g2]
    · cases hh
  · cases hh

end Go.Proofs.YtbnjijffkjcmcaaGreatDoor.AL
