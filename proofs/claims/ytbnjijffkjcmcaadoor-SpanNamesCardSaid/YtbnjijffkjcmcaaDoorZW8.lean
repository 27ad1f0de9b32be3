import Derived.Test.YtbnjijffkjcmcaaDoorZW6
import Derived.Shelf.Pu.Lays
import Derived.Shelf.Pu.Lower
import Derived.Shelf.Pu.ParseUintEmpty
import Derived.Lib.Strings
import Derived.Lib.Walk
import Derived.Lib.ConvBytes
import Derived.Lib.ParseIntBMem
import Derived.Lib.Hide
import Derived.Laws.Strings3
import Derived.Laws.Closers25
import Derived.Laws.Closers25b
import Derived.WalkKit
import Derived.BigCall
import Derived.BigGuard
import Derived.Test.YtbnjijffkjcmcaaDoorZW7
import Derived.Lib.AppendIntMem
import Derived.Lib.ItoaMem
/- What single functions compute: a part of the proof; no conditions. -/
set_option linter.unusedVariables false
set_option linter.unusedSimpArgs false
set_option linter.unusedSectionVars false
set_option maxRecDepth 100000
namespace Go.Proofs.YtbnjijffkjcmcaaDoor.AL
open Go
/-! internal/strconv.ParseUint(s, 16, 16), over any program and numbering: the shelf's walk at base 10, turned to base 16. -/
open Go.Shelf Go.RowKit
section
variable {P : Program} {ρ : Ren}
def puTuple (T : TypeId) (M : Int) : PEnd → Value
  | .ok n => .tuple #[.int .u64 n, .nilIface]
  | .synt => .tuple #[.int .u64 0, .iface T (.int .i64 2)]
  | .over => .tuple #[.int .u64 M, .iface T (.int .i64 1)]
theorem or32 (c : Nat) (h : c < 256) : Go.bits .or .u8 (c : Int) 32 = ((c ||| 32 : Nat) : Int) := by
  have key : ∀ k : Fin 256, Go.bits .or .u8 (k.val : Int) 32 = ((k.val ||| 32 : Nat) : Int) := by decide +kernel
  exact key ⟨c, h⟩
set_option maxHeartbeats 32000000 in
set_option maxRecDepth 100000 in
theorem internal_ParseUint_16_b16 (L : LaysPu.n16 P ρ) (t : ByteArray) (hne : t.size ≠ 0) (hmax : t.size ≤ 9223372036854775806) (w : World) :
    Calls P (ρ.f 16) #[.string t, .int .i64 16, .int .i64 16] w fun e w' => e = .returned (puTuple (ρ.t 34) 65535 (puF 16 65535 0 t.data.toList)) ∧ w' = Lib.bytesWorld w (ρ.t 5) t := by
  have mixed := L.mixed
  have t9 := L.t9; have a9 := L.a9; have z9 := L.z9; have v9 := L.v9
  have t3 := L.t3; have a3 := L.a3; have z3 := L.z3; have v3 := L.v3
  have t22 := L.t22; have a22 := L.a22; have z22 := L.z22; have v22 := L.v22
  have t24 := L.t24; have a24 := L.a24; have z24 := L.z24; have v24 := L.v24
  have t4 := L.t4; have a4 := L.a4; have z4 := L.z4; have v4 := L.v4
  have t34 := L.t34; have a34 := L.a34; have z34 := L.z34; have v34 := L.v34
  have t5 := L.t5; have a5 := L.a5; have z5 := L.z5; have v5 := L.v5
  have t36 := L.t36; have a36 := L.a36; have z36 := L.z36; have v36 := L.v36
  have t37 := L.t37; have a37 := L.a37; have z37 := L.z37; have v37 := L.v37
  have t0 := L.t0; have a0 := L.a0; have z0 := L.z0; have v0 := L.v0
  have e19 : ∀ args w, (callFunc (ρ.f 19) args).run P w = .ok (.enter (ρ.f 19) args) w := enters_of L.f19 (by kernel_rfl) rfl
  have hemp : t.toList.isEmpty = false := by
    rw [← decide_eq_emptyBytes]
    exact decide_eq_false (fun h => hne (by rw [h]; rfl))
  have hcv := Lib.run_convert_string_bytes (P := P) w (ρ.t 9) (ρ.t 37) (ρ.t 5) t (u := .string) L.t9 L.t37 L.t5
  have hB : ∀ j, j < t.size → (Lib.bytesWorld w (ρ.t 5) t).cell? ⟨w.heap.size, j, none⟩ = some (.int .u8 (t.data.toList.getD j 0).toNat) := fun j hj => Lib.bytesWorld_cell w (ρ.t 5) t j hj
  obtain ⟨W1, hW1⟩ : ∃ W1, W1 = Lib.bytesWorld w (ρ.t 5) t := ⟨_, rfl⟩
  rw [← hW1] at hcv hB ⊢
  clear hW1
  obtain ⟨bs, hL⟩ : ∃ bs, bs = t.data.toList := ⟨_, rfl⟩
  have hLn : bs.length = t.size := by rw [hL, Lib.size_eq]
  rw [← hL] at hB ⊢
  clear hL
  have hmv : IntKind.u64.wrap (IntKind.u64.wrap 65536 - 1) = 65535 := by
    rw [IntKind.wrap_u64, IntKind.wrap_u64]
    decide
  go_enter L.f16, BodyPu.n16_ntmps ρ
  go_wp2
  go_loop [12, 13, 101] (fun vu vn vi => ∃ (k acc : Nat) (a : Int), vu = .bool false ∧ vn = .int .u64 a ∧ vi = .int .i64 k ∧ k ≤ t.size ∧ Hid (a = (acc : Int) ∧ acc ≤ 65535 ∧ puF 16 65535 0 bs = puF 16 65535 acc (bs.drop k)))
    (fun _ _ vi => t.size - (intOf vi).toNat)
  case atStart => exact ⟨0, 0, 0, rfl, rfl, rfl, by omega, rfl, by omega, rfl⟩
  case round =>
    obtain ⟨k, acc, a, rfl, rfl, rfl, hk, hh⟩ := hrel
    obtain ⟨ha, hacc, hdec⟩ := hh.out
    clear hh
    have a0 : 0 ≤ a := by omega
    have a1 : a ≤ 65535 := by omega
    by_cases hkn : k < t.size
    · have hc := hB k hkn
      have hdrop : bs.drop k = bs[k]'(by omega) :: bs.drop (k + 1) := List.drop_eq_getElem_cons (by omega)
      have hget : bs.getD k 0 = bs[k]'(by omega) := by simp [List.getD, List.getElem?_eq_getElem (show k < bs.length by omega)]
      rw [hdrop] at hdec
      rw [hget] at hc
      generalize bs[k]'(by omega) = c at hc hdec
      have hc256 : c.toNat < 256 := c.toNat_lt
      have ho := or32 c.toNat hc256
      clear hB hdrop hget
      by_cases hdig : 48 ≤ c.toNat ∧ c.toNat ≤ 57
      · obtain ⟨hd0, hd1⟩ := hdig
        clear ho
        by_cases hov : 65535 < acc * 16 + (c.toNat - 48)
        · have hF : puF 16 65535 acc (c :: bs.drop (k + 1)) = .over := by
            simp only [puF, pdig]
            rw [if_pos ⟨hd0, hd1⟩]
            simp only
            rw [if_neg (by omega), if_pos hov]
          rw [hF] at hdec
          have iov : 65535 < a * 16 + ((c.toNat : Int) - 48) := by omega
          clear hacc hF hov ha
          go_wp2
          go_ret2
          exact ⟨rfl, rfl⟩
        · have hF : puF 16 65535 acc (c :: bs.drop (k + 1)) = puF 16 65535 (acc * 16 + (c.toNat - 48)) (bs.drop (k + 1)) := by
            simp only [puF, pdig]
            rw [if_pos ⟨hd0, hd1⟩]
            simp only
            rw [if_neg (by omega), if_neg hov]
          have HN : Hid (a * 16 + ((c.toNat : Int) - 48) = ((acc * 16 + (c.toNat - 48) : Nat) : Int) ∧ acc * 16 + (c.toNat - 48) ≤ 65535 ∧ puF 16 65535 0 bs = puF 16 65535 (acc * 16 + (c.toNat - 48)) (bs.drop (k + 1))) := Go.Lib.hid ⟨by omega, by omega, hdec.trans hF⟩
          have iov : a * 16 + ((c.toNat : Int) - 48) ≤ 65535 := by omega
          clear hacc hF hov hdec ha
          go_wp2
          refine ⟨⟨k + 1, acc * 16 + (c.toNat - 48), a * 16 + ((c.toNat : Int) - 48), rfl, (by first | rfl | (congr 1; omega)), (by first | rfl | (congr 1; omega)), by omega, HN⟩, by simp [intOf]; omega⟩
      · have hv0 := bits_lo_u8 .or (c.toNat : Int) 32
        have hv1 := bits_hi_u8 .or (c.toNat : Int) 32
        by_cases hlet : 97 ≤ (c.toNat ||| 32) ∧ (c.toNat ||| 32) ≤ 122
        · have h95 : ¬ (c.toNat : Int) = 95 := by
            intro h
            have h' : c.toNat = 95 := by omega
            rw [h'] at hlet
            exact absurd hlet.2 (by decide)
          by_cases h16 : 16 ≤ (c.toNat ||| 32) - 87
          · have hF : puF 16 65535 acc (c :: bs.drop (k + 1)) = .synt := by
              simp only [puF, pdig]
              rw [if_neg hdig, if_pos hlet]
              simp only
              rw [if_pos h16]
            rw [hF] at hdec
            generalize (c.toNat ||| 32) = q at *
            have q1 : (97 : Int) ≤ Go.bits .or .u8 (c.toNat : Int) 32 := by omega
            have q2 : Go.bits .or .u8 (c.toNat : Int) 32 ≤ 122 := by omega
            have q3 : (103 : Int) ≤ Go.bits .or .u8 (c.toNat : Int) 32 := by omega
            have hu0 := bits_lo_u8 .or 95 32
            have hu1 := bits_hi_u8 .or 95 32
            clear hacc hF ha ho hlet
            go_wp2_with (go_at_fn (ρ.f 19); refine (AnyPu.internal_strconv_lower { L with } _ _).mono ?_; rintro e w' ⟨rfl, rfl⟩)
            all_goals go_ret2
            all_goals first | exact ⟨rfl, rfl⟩ | exact ⟨by rw [hdec]; rfl, rfl⟩
          · by_cases hov : 65535 < acc * 16 + ((c.toNat ||| 32) - 87)
            · have hF : puF 16 65535 acc (c :: bs.drop (k + 1)) = .over := by
                simp only [puF, pdig]
                rw [if_neg hdig, if_pos hlet]
                simp only
                rw [if_neg h16, if_pos hov]
              rw [hF] at hdec
              generalize (c.toNat ||| 32) = q at *
              have q1 : (97 : Int) ≤ Go.bits .or .u8 (c.toNat : Int) 32 := by omega
              have q2 : Go.bits .or .u8 (c.toNat : Int) 32 ≤ 102 := by omega
              have iov : 65535 < a * 16 + (Go.bits .or .u8 (c.toNat : Int) 32 - 87) := by omega
              clear hacc hF ha ho hlet h16 hov
              go_wp2_with (go_at_fn (ρ.f 19); refine (AnyPu.internal_strconv_lower { L with } _ _).mono ?_; rintro e w' ⟨rfl, rfl⟩)
              all_goals go_ret2
              all_goals first | exact ⟨rfl, rfl⟩ | exact ⟨by rw [hdec]; rfl, rfl⟩
            · have hF : puF 16 65535 acc (c :: bs.drop (k + 1)) = puF 16 65535 (acc * 16 + ((c.toNat ||| 32) - 87)) (bs.drop (k + 1)) := by
                simp only [puF, pdig]
                rw [if_neg hdig, if_pos hlet]
                simp only
                rw [if_neg h16, if_neg hov]
              generalize (c.toNat ||| 32) = q at *
              have q1 : (97 : Int) ≤ Go.bits .or .u8 (c.toNat : Int) 32 := by omega
              have q2 : Go.bits .or .u8 (c.toNat : Int) 32 ≤ 102 := by omega
              have HN : Hid (a * 16 + (Go.bits .or .u8 (c.toNat : Int) 32 - 87) = ((acc * 16 + (q - 87) : Nat) : Int) ∧ acc * 16 + (q - 87) ≤ 65535 ∧ puF 16 65535 0 bs = puF 16 65535 (acc * 16 + (q - 87)) (bs.drop (k + 1))) := Lib.hid ⟨by omega, by omega, hdec.trans hF⟩
              have iov : a * 16 + (Go.bits .or .u8 (c.toNat : Int) 32 - 87) ≤ 65535 := by omega
              clear hacc hF ha ho hlet h16 hov hdec
              go_wp2_with (go_at_fn (ρ.f 19); refine (AnyPu.internal_strconv_lower { L with } _ _).mono ?_; rintro e w' ⟨rfl, rfl⟩)
              all_goals exact ⟨⟨k + 1, acc * 16 + (q - 87), a * 16 + (Go.bits .or .u8 (c.toNat : Int) 32 - 87), rfl, (by first | rfl | (congr 1; omega)), (by first | rfl | (congr 1; omega)), by omega, HN⟩, by simp [intOf]; omega⟩
        · have hF : puF 16 65535 acc (c :: bs.drop (k + 1)) = .synt := by
            simp only [puF, pdig]
            rw [if_neg hdig, if_neg hlet]
          rw [hF] at hdec
          generalize (c.toNat ||| 32) = q at *
          have q3 : Go.bits .or .u8 (c.toNat : Int) 32 < 97 ∨ 122 < Go.bits .or .u8 (c.toNat : Int) 32 := by omega
          have hu0 := bits_lo_u8 .or 95 32
          have hu1 := bits_hi_u8 .or 95 32
          clear hacc hF ha ho hlet
          go_wp2_with (go_at_fn (ρ.f 19); refine (AnyPu.internal_strconv_lower { L with } _ _).mono ?_; rintro e w' ⟨rfl, rfl⟩)
          all_goals go_ret2
          all_goals first | exact ⟨rfl, rfl⟩ | exact ⟨by rw [hdec]; rfl, rfl⟩
    · have hkk : k = t.size := by omega
      subst hkk
      have hF : puF 16 65535 acc (bs.drop t.size) = .ok acc := by rw [List.drop_eq_nil_of_le (by omega)]; rfl
      rw [hF] at hdec
      subst ha
      clear hacc hF a0 a1
      go_wp2
      go_ret2
      exact ⟨rfl, rfl⟩
/-- At every string. -/
theorem internal_ParseUint_16_at16 (L : LaysPu.n16 P ρ) (t : ByteArray) (hmax : t.size ≤ 9223372036854775806) (w : World) :
    Calls P (ρ.f 16) #[.string t, .int .i64 16, .int .i64 16] w fun e w' => e = .returned (puTuple (ρ.t 34) 65535 (pu 16 65535 t.data.toList)) ∧ (w' = w ∨ w' = Lib.bytesWorld w (ρ.t 5) t) := by
  by_cases h0 : t.size = 0
  · have ht : t = ⟨#[]⟩ := by
      apply ByteArray.ext
      exact Array.eq_empty_of_size_eq_zero h0
    subst ht
    exact (AnyPu.internal_strconv_ParseUint_empty { L with } 16 16 w).mono fun e w' ⟨he, hw⟩ => ⟨he, Or.inl hw⟩
  · have hne : t.data.toList ≠ [] := fun h => h0 (by rw [Lib.size_eq, h]; rfl)
    refine (internal_ParseUint_16_b16 { L with } t h0 hmax w).mono fun e w' ⟨he, hw⟩ => ⟨?_, Or.inr hw⟩
    rw [he, pu, if_neg hne]
end
end Go.Proofs.YtbnjijffkjcmcaaDoor.AL
namespace Go.Proofs.YtbnjijffkjcmcaaDoor.AL
open Go
/-! ParseUint in base 10: the shelf's words and ours. -/
theorem pu10_eq (T : TypeId) {M : Nat} (hM : M < 4294967296) : ∀ (l : List UInt8) (n : Nat), n ≤ M → Lib.uintTupleM T M (Lib.parseUintM M n l) = puTuple T M (puF 10 M n l)
  | [], n, h => rfl
  | c :: l, n, h => by
    simp only [Lib.parseUintM, puF]
    by_cases hd : 48 ≤ c.toNat ∧ c.toNat ≤ 57
    · have hp : pdig c = some (c.toNat - 48) := by unfold pdig; rw [if_pos hd]
      have h10 : ¬ 10 ≤ c.toNat - 48 := by omega
      rw [if_pos hd, hp, if_neg (by omega)]
      simp only
      rw [if_neg h10]
      by_cases ho : M < n * 10 + (c.toNat - 48)
      · rw [if_pos ho, if_pos ho]; rfl
      · rw [if_neg ho, if_neg ho]
        exact pu10_eq T hM l _ (by omega)
    · rw [if_neg hd]
      cases hp : pdig c with
      | none => rfl
      | some d =>
        simp only
        have : 10 ≤ d := by
          unfold pdig at hp
          rw [if_neg hd] at hp
          split at hp
          · cases hp; omega
          · cases hp
        rw [if_pos this]
        rfl
theorem pu10_tuple (T : TypeId) {B M : Nat} (hB : 2 ^ B - 1 = M) (hM : M < 4294967296) (l : List UInt8) : Lib.uintTupleM T M (Lib.parseUintB B l) = puTuple T M (pu 10 M l) := by
  unfold Lib.parseUintB pu
  rw [hB]
  split
  · rfl
  · exact pu10_eq T hM l 0 (Nat.zero_le _)
end Go.Proofs.YtbnjijffkjcmcaaDoor.AL
namespace Go.Proofs.YtbnjijffkjcmcaaDoor.AL
open Go
attribute [local simp] qf cv qbin ibin sbin qun retPost rvOk ctV ctPost marksOk retV resAll resOf V.lt ltL V.ren renL V.exp V.exp1 cleanL V.clean closedL V.closed V.cells V.one V.tree
  loadV cellsAt isNC nilQ isSlD isIfD slNew ownRows ownCells V.isOwn slStore srcO qlook mlook mget mstr zval qnone qmake mput lmap isAggD placesOf fillV putCells lstore bound seqParts V.sh shL Blk.sh newV V.ok peqs peq srcRows qbytes byteSl appOk mmV mmR hidE V.fz fzL Blk.fz fzOk and_assoc
attribute [-simp] Int.not_le Int.not_lt Nat.not_le Nat.not_lt
/-! The library's rows. -/
theorem nd_le {u : Nat} (h1 : 1 ≤ u) (h : u < 18446744073709551616) : Lib.nDigits u ≤ 20 := by have := Lib.numDigits_eq u h1 h; split at this <;> omega
theorem gok_tab {E : Env} (h : GOK Tryd.prog E) : Lib.TabIs Tryd.prog E.w "internal/strconv.uint64pow10" .u64 Lib.pow10Tab := by
  obtain ⟨_, _, arr, ty, fr, h3, h4⟩ := h.lay 0 _ gl_pow
  have hn : Tryd.prog.globalNamed "internal/strconv.uint64pow10" = some 0 := by kernel_rfl
  unfold Lib.TabIs World.var?
  rw [hn, Option.bind_some, h3]
  simp only [Option.some.injEq]
  rw [← Array.toList_inj, h4]
  rfl
open Go.RowKit Go.Sort in
set_option maxHeartbeats 6400000 in
set_option maxRecDepth 100000 in
theorem fu10_calls (u : Nat) (h100 : 100 ≤ u) (hu64 : u < 18446744073709551616) (w : World) (htab : Lib.TabIs Tryd.prog w "internal/strconv.uint64pow10" .u64 Lib.pow10Tab) :
    Calls Tryd.prog 77 #[.int .u64 u, .int .i64 10] w fun e w' => e = .returned (.string ⟨(Lib.decDigits u).toArray⟩) ∧ ∃ k os, w' = grow (w.drewN k) os := by
  have hu1 : 1 ≤ u := by omega
  have hnd20 := nd_le hu1 hu64
  have hal : Tryd.prog.arrayLen 149 = 24 := by kernel_rfl
  have hel : Tryd.prog.underlying 149 = some (.array 24 5) := by kernel_rfl
  have hsl1 : ∀ W, (Instr.sliceAt 149 (.pointer (some ⟨w.heap.size, 0, none⟩)) none (some (.int .i64 (Lib.nDigits u : Int))) none).run Tryd.prog W = .ok (.slice (some ⟨w.heap.size, 0, none⟩) (Lib.nDigits u) 24) W := fun W => by
    rw [run_sliceAt_array_h W 149 ⟨w.heap.size, 0, none⟩ (by simp [Program.arrayLen, Program.elem, hel]) .i64 (Lib.nDigits u : Int) (by omega) (by rw [hal]; omega)]
    go_simp
  have hH0 := Lib.holds_zero0 w 149 (Lib.nDigits u) (by omega)
  have hfmt := Tryd.internal_strconv_formatBase10 w.heap.size 0 24 u (Array.replicate (Lib.nDigits u) 0) (w.alloc (.cells Lib.zeros24 149)) hH0 (by rw [Array.size_replicate]; exact Lib.lt_pow_nDigits u) hu64 (by rw [Array.size_replicate]; omega)
  rw [Array.size_replicate] at hfmt
  have HH0 := Lib.hid hH0
  clear hH0 hal
  go_enter Tryd.func77, Tryd.ntmps77
  go_wp2_with (first
    | (go_at_call 96; refine (Tryd.internal_strconv_numDigits u hu1 hu64 _ (Lib.tabIs_alloc htab _)).mono ?_; rintro e w' ⟨rfl, rfl⟩))
  go_at_call 97
  refine hfmt.mono ?_
  rintro e w' ⟨rfl, k, v', dk, rfl, hF⟩
  have hcv : (convert 129 9 (.slice (some ⟨w.heap.size, 0, none⟩) (Lib.nDigits u) 24)).run Tryd.prog ((putRow (fun (b : UInt8) => Value.int .u8 (b.toNat : Int)) (w.alloc (.cells Lib.zeros24 149)) w.heap.size 0 dk).drewN k) = .ok (.string ⟨(Lib.decDigits u).toArray⟩) ((putRow (fun (b : UInt8) => Value.int .u8 (b.toNat : Int)) (w.alloc (.cells Lib.zeros24 149)) w.heap.size 0 dk).drewN k) := by
    have h := run_convert_bytes_back (P := Tryd.prog) ((putRow (fun (b : UInt8) => Value.int .u8 (b.toNat : Int)) (w.alloc (.cells Lib.zeros24 149)) w.heap.size 0 dk).drewN k) 129 9 5 ⟨w.heap.size, 0, none⟩ 24 (Lib.decDigits u) (by kernel_rfl) (by kernel_rfl) (by kernel_rfl) (fun j hj => by
      rw [Lib.row_is_numeral hF j hj, Lib.add_plain, World.cell?_drewN]
      exact cell?_putRow (fun (b : UInt8) => Value.int .u8 (b.toNat : Int)) _ w.heap.size 0 _ dk HH0.out (by rw [hF.size, Array.size_replicate]) j (by rw [hF.size]; rw [Lib.decDigits_length] at hj; exact hj))
    rw [Lib.decDigits_length] at h
    exact h
  go_wp2
  go_ret
  obtain ⟨os, eo⟩ := Lib.fin_at w (.cells Lib.zeros24 149) dk k 0
  exact ⟨rfl, k, os, eo⟩

end Go.Proofs.YtbnjijffkjcmcaaDoor.AL
namespace Go.Proofs.YtbnjijffkjcmcaaDoor.AL
open Go
attribute [local simp] qf cv qbin ibin sbin qun retPost rvOk ctV ctPost marksOk retV resAll resOf V.lt ltL V.ren renL V.exp V.exp1 cleanL V.clean closedL V.closed V.cells V.one V.tree
  loadV cellsAt isNC nilQ isSlD isIfD slNew ownRows ownCells V.isOwn slStore srcO qlook mlook mget mstr zval qnone qmake mput lmap isAggD placesOf fillV putCells lstore bound seqParts V.sh shL Blk.sh newV V.ok peqs peq srcRows qbytes byteSl appOk mmV mmR hidE V.fz fzL Blk.fz fzOk and_assoc
attribute [-simp] Int.not_le Int.not_lt Nat.not_le Nat.not_lt
open Go.RowKit Go.Sort in
theorem below_grown (w : World) (k : Nat) (os : Array Obj) : Below w.heap.size w (grow (w.drewN k) os) := Lib.below_grow _ w (Nat.le_refl _) k os
open Go.RowKit in
theorem below_bytes (w : World) (e : TypeId) (s : ByteArray) : Below w.heap.size w (Lib.bytesWorld w e s) := by
  refine ⟨rfl, rfl, rfl, ?_, fun j hj => Lib.bytesWorld_at_old w e s j hj⟩
  simp [Lib.bytesWorld, World.freeze, World.alloc, World.drew, -World.alloc_eq, -World.drew_eq]
theorem dec_bs {u : Nat} (h : u < 18446744073709551616) : (⟨(Lib.decDigits u).toArray⟩ : ByteArray) = bs (dgs 10 u) := by rw [decDigits_dgs u h]; rfl
noncomputable def SIto : List V → Option Res
  | [.int .i64 n] => ifC (0 ≤ n ∧ n < 9223372036854775808) (some ⟨.str (bs (dgs 10 n.toNat)), []⟩)
  | _ => none
theorem ito_at {n : Nat} (h : n < 9223372036854775808) : SIto [.int .i64 (n : Int)] = some ⟨.str (bs (dgs 10 n)), []⟩ := by
  simp only [SIto]; rw [ifC_pos ⟨by omega, by omega⟩]; rfl
theorem runs_Ito : ∀ args r, SIto args = some r → Runs Tryd.prog 60 args r := by
  intro args r hh
  unfold SIto ifC at hh
  split at hh
  · rename_i n
    split at hh
    · rename_i hn
      cases hh
      refine Runs.of_calls Tryd.func60 (by decide) rfl fun E us hG hr => ?_
      simp only [RL, R] at hr
      obtain ⟨_, _, rfl, rfl, rfl⟩ := hr
      obtain ⟨i, rfl⟩ := Int.eq_ofNat_of_zero_le hn.1
      refine ⟨.string (bs (dgs 10 i)), (Tryd.strconv_Itoa (i : Int) (by omega) (by omega) E.w (gok_tab hG)).mono ?_, fun E' => by simp [R]⟩
      rintro e w' ⟨rfl, k, os, rfl⟩
      refine ⟨?_, below_grown _ _ _⟩
      rw [Lib.itoa_nonneg, dec_bs (by omega)]
    · cases hh
  · cases hh
theorem runs_small : ∀ args r, SSmall args = some r → Runs Tryd.prog 95 args r := by
  intro args r hh
  unfold SSmall at hh
  split at hh
  · rename_i n
    split at hh
    · rename_i hn
      cases hh
      refine Runs.of_calls Tryd.func95 (by decide) rfl fun E us hG hr => ?_
      simp only [RL, R] at hr
      obtain ⟨_, _, rfl, rfl, rfl⟩ := hr
      obtain ⟨i, rfl⟩ := Int.eq_ofNat_of_zero_le hn.1
      refine ⟨.string (dig i), (Tryd.internal_strconv_small i (by omega) E.w).mono ?_, fun E' => by simp [R]⟩
      rintro e w' ⟨rfl, rfl⟩
      exact ⟨by simp [dig], RowKit.Below.refl _ _⟩
    · cases hh
  · cases hh
/-- FormatUint, in base 10 or 16. -/
noncomputable def SFu : List V → Option Res
  | [.int .u64 x, .int .i64 b] => ifC ((0 ≤ x ∧ x < 18446744073709551616) ∧ (b = 10 ∨ b = 16)) (some ⟨.str (bs (dgs b.toNat x.toNat)), []⟩)
  | _ => none
theorem hdg_dch {d : Nat} (h : d < 16) : UInt8.ofNat (hdg (d : Int)).toNat = dch d := by
  have key : ∀ k : Fin 16, UInt8.ofNat (hdg ((k.val : Nat) : Int)).toNat = dch k.val := by decide +kernel
  exact key ⟨d, h⟩
theorem hx_snoc (x : Nat) : ∀ k, hx x (k + 1) = hx (x / 16) k ++ [hdg ((x % 16 : Nat) : Int)]
  | 0 => by simp [hx]
  | k + 1 => by
    rw [hx, hx_snoc x k, hx]
    rw [Nat.div_div_eq_div_mul, Nat.pow_succ, Nat.mul_comm 16]
    rfl
def hexB (l : List Int) : List UInt8 := l.map fun n => UInt8.ofNat n.toNat
theorem foldl_push (l : List Int) : ∀ (a : ByteArray), (l.foldl (fun r n => r.push (UInt8.ofNat n.toNat)) a).data.toList = a.data.toList ++ hexB l := by
  induction l with
  | nil => intro a; simp [hexB]
  | cons x l ih => intro a; rw [List.foldl_cons, ih]; simp [hexB, ByteArray.push]
theorem hkF_fuel : ∀ (f g x : Nat), x < 16 ^ (f + 1) → x < 16 ^ (g + 1) → hkF f x = hkF g x
  | 0, g, x, h, _ => by rw [hk_end (by simpa using h), hk_end (by simpa using h)]
  | f + 1, 0, x, _, h => by rw [hk_end (by simpa using h), hk_end (by simpa using h)]
  | f + 1, g + 1, x, h1, h2 => by
    rw [hkF, hkF]
    split
    · rfl
    · rw [hkF_fuel f g (x / 16) (Nat.div_lt_of_lt_mul (by rw [Nat.pow_succ] at h1; omega)) (Nat.div_lt_of_lt_mul (by rw [Nat.pow_succ] at h2; omega))]
theorem hexL_dgs : ∀ x, x < 18446744073709551616 → hexB (hexL x) = dgs 16 x := by
  intro x
  induction x using Nat.strongRecOn with
  | _ x ih =>
    intro hx
    unfold hexL
    by_cases h : x < 16
    · rw [hk_end h, dgs_lt h]
      have := hdg_dch h
      simp [hx, hexB, AL.hx, Nat.mod_eq_of_lt h, this]
    · rw [hk_step (f := 15) (by omega), hx_snoc, dgs_step (by omega) hx (by omega), ← ih (x / 16) (by omega) (by omega)]
      unfold hexB hexL
      rw [List.map_append, hkF_fuel 15 16 (x / 16) (by omega) (by omega)]
      have := hdg_dch (Nat.mod_lt x (show 0 < 16 by decide))
      simp only [List.map_cons, List.map_nil, this]
theorem bOf_ints : ∀ l : List Int, l.map (bOf ∘ fun n => [V.int .u8 n]) = l
  | [] => rfl
  | x :: l => by rw [List.map_cons, bOf_ints l]; rfl
theorem hexS_bs {x : Nat} (h : x < 18446744073709551616) : hexS x = bs (dgs 16 x) := by
  apply ba_ext
  rw [bs_data, ← hexL_dgs x h]
  unfold hexS strR
  rw [List.map_map]
  have := foldl_push (hexL x) ByteArray.empty
  rw [bOf_ints, this]
  rfl
def M_f77 : Md := fun i => some #[]
@[simp] theorem M_f77_eq {i : Nat} : M_f77 i = (some #[]) := rfl
theorem runs_iFu : ∀ args r, SFu args = some r → Runs Tryd.prog 77 args r := by
  intro args r hh
  unfold SFu ifC at hh
  split at hh
  · rename_i n b
    split at hh
    · rename_i hin
      obtain ⟨⟨h0, h1⟩, hb⟩ := hin
      obtain ⟨u, rfl⟩ := Int.eq_ofNat_of_zero_le h0
      cases hh
      rcases hb with rfl | rfl
      · by_cases h100 : u < 100
        · have hT : (T0.add 95 SSmall).ok Tryd.prog := Tab.add_ok (T0_ok _) runs_small
          have w1 : IntKind.i64.wrap (u : Int) = u := wr_i64 (by omega) (by omega)
          have hs : SSmall [.int .i64 (u : Int)] = some ⟨.str (dig u), []⟩ := by
            simp only [SSmall]; rw [if_pos ⟨by omega, by omega⟩]
          have he : dig (u : Int) = bs (dgs 10 u) := by unfold dig; rw [Int.toNat_natCast, dec_bs (by omega)]
          have hlt : (u : Int) < 100 := by omega
          show Runs _ _ _ ⟨.str (bs (dgs 10 u)), []⟩
          generalize dgs 10 u = DD at *
          refine Runs.of_body Tryd.func77 (by decide) rfl (by simp [Tryd.f77]) ?_
          refine W.of_WE hT mixed M_f77 _ (by kernel_rfl) ?_
          simp [Tryd.f77, hs, hlt, h100, w1, he]
        · refine Runs.of_calls Tryd.func77 (by decide) rfl fun E us hG hr => ?_
          simp only [RL, R] at hr
          obtain ⟨_, _, rfl, rfl, _, _, rfl, rfl, rfl⟩ := hr
          refine ⟨.string (bs (dgs 10 u)), (fu10_calls u (by omega) (by omega) E.w (gok_tab hG)).mono ?_, fun E' => by simp [R]⟩
          rintro e w' ⟨rfl, k, os, rfl⟩
          exact ⟨by rw [dec_bs (by omega)], below_grown _ _ _⟩
      · refine runs_iFormatUint16 _ _ ?_
        rw [fu16_at (by omega), hexS_bs (by omega)]
        rfl
    · cases hh
  · cases hh
theorem runs_Fu : ∀ args r, SFu args = some r → Runs Tryd.prog 49 args r := by
  intro args r hh
  have h0 := hh
  unfold SFu ifC at hh
  split at hh
  · rename_i x b
    split at hh
    · rename_i hin
      cases hh
      have hT : (T0.add 77 SFu).ok Tryd.prog := Tab.add_ok (T0_ok _) runs_iFu
      generalize dgs b.toNat x.toNat = H at *
      refine Runs.of_body Tryd.func49 (by decide) rfl (by simp [Tryd.f49]) ?_
      refine W.of_WE hT mixed M0 _ (by kernel_rfl) ?_
      simp [Tryd.f49, h0]
    · cases hh
  · cases hh
theorem fu_at {x : Nat} {b : Nat} (h : x < 18446744073709551616) (hb : b = 10 ∨ b = 16) : SFu [.int .u64 (x : Int), .int .i64 (b : Int)] = some ⟨.str (bs (dgs b x)), []⟩ := by
  simp only [SFu]; rw [ifC_pos ⟨⟨by omega, by omega⟩, by omega⟩]; rfl
theorem runs_Join : ∀ args r, SJoin args = some r → Runs Tryd.prog 50 args r := by
  intro args r hh
  unfold SJoin at hh
  split at hh
  · rename_i rows sep
    split at hh
    · rename_i xs hxs
      split at hh
      · rename_i hn
        cases hh
        have h1 := parse_eq strOf_eq hxs
        subst h1
        refine Runs.of_calls Tryd.func50 (by decide) rfl fun E us hG hr => ?_
        simp only [RL, R] at hr
        obtain ⟨_, _, rfl, ⟨ad, cap, rfl, hc1, hc2, hrow⟩, _, _, rfl, rfl, rfl⟩ := hr
        refine ⟨.string (joinB xs sep), ?_, fun E' => by simp [R]⟩
        cases xs with
        | nil =>
          refine (Tryd.strings_Join_none ad cap sep E.w).mono ?_
          rintro e w' ⟨rfl, rfl⟩
          exact ⟨rfl, RowKit.Below.refl _ _⟩
        | cons x xs =>
          rcases hrow with hrow | ⟨g, o, rfl, hO, hg, hl, hrr⟩
          · simp at hrow
          · have hlen : (List.map (fun s => [V.str s]) (x :: xs)).length = (x :: xs).length := by simp
            rw [hlen] at hc1 hc2 ⊢
            refine (Tryd.strings_Join g o cap (x :: xs) sep E.w (strRows_cells hrr) hg hn.2 hc1 ?_).mono ?_
            · have : (joinB (x :: xs) sep).size = (Lib.join ((x :: xs).map (·.data.toList)) sep.data.toList).length := by simp [joinB, ByteArray.size]
              rw [← this]; exact hn.1
            · rintro e w' ⟨rfl, hb⟩
              exact ⟨rfl, hb⟩
      · cases hh
    · cases hh
  · cases hh
/-- Rows of strings, told by their bytes. -/
def bRows (ps : List (List UInt8)) : List (List V) := ps.map fun p => [.str (bs p)]
theorem bRows_str (ps : List (List UInt8)) : bRows ps = strRows (ps.map bs) := by simp [bRows, strRows]
theorem bRows_len (ps : List (List UInt8)) : (bRows ps).length = ps.length := by simp [bRows]
theorem joinB_bs (ps : List (List UInt8)) (sep : List UInt8) : joinB (ps.map bs) (bs sep) = bs (Lib.join ps sep) := by
  unfold joinB
  rw [List.map_map, bs_data]
  have : ((fun x : ByteArray => x.data.toList) ∘ bs) = id := by funext p; exact bs_data p
  rw [this, List.map_id]
  rfl
theorem join_at {ps : List (List UInt8)} {sep : List UInt8} (h : (Lib.join ps sep).length ≤ 140737488355328) (hl : ps.length ≤ 140737488355328) : SJoin [.rd 1 (bRows ps), .str (bs sep)] = some ⟨.str (bs (Lib.join ps sep)), []⟩ := by
  rw [bRows_str]
  simp only [SJoin, strRows_parse]
  rw [joinB_bs, if_pos ⟨by rw [bs_size]; exact h, by simpa using hl⟩]

end Go.Proofs.YtbnjijffkjcmcaaDoor.AL
namespace Go.Proofs.YtbnjijffkjcmcaaDoor.AL
open Go
attribute [local simp] qf cv qbin ibin sbin qun retPost rvOk ctV ctPost marksOk retV resAll resOf V.lt ltL V.ren renL V.exp V.exp1 cleanL V.clean closedL V.closed V.cells V.one V.tree
  loadV cellsAt isNC nilQ isSlD isIfD slNew ownRows ownCells V.isOwn slStore srcO qlook mlook mget mstr zval qnone qmake mput lmap isAggD placesOf fillV putCells lstore bound seqParts V.sh shL Blk.sh newV V.ok peqs peq srcRows qbytes byteSl appOk mmV mmR hidE V.fz fzL Blk.fz fzOk and_assoc
attribute [-simp] Int.not_le Int.not_lt Nat.not_le Nat.not_lt
/-! Reading numbers. -/
def errI : PEnd → V
  | .ok _ => .nilif
  | .synt => .iface 157 (.int .i64 2)
  | .over => .iface 157 (.int .i64 1)
def baseM (b w : Int) : Option (Nat × Nat) := if b = 10 ∧ w = 8 then some (10, 255) else if b = 10 ∧ w = 32 then some (10, 4294967295) else if b = 16 ∧ w = 16 then some (16, 65535) else none
def SPuI : List V → Option Res
  | [.str s, .int .i64 b, .int .i64 w] => match baseM b w with
    | some (c, M) => if s.size ≤ 281474976710656 then some ⟨.tup [.int .u64 ((pu c M s.data.toList).val M), errI (pu c M s.data.toList)], []⟩ else none
    | none => none
  | _ => none
theorem baseM_some {b w : Int} {c M : Nat} (h : baseM b w = some (c, M)) : (b = 10 ∧ w = 8 ∧ c = 10 ∧ M = 255) ∨ (b = 10 ∧ w = 32 ∧ c = 10 ∧ M = 4294967295) ∨ (b = 16 ∧ w = 16 ∧ c = 16 ∧ M = 65535) := by
  unfold baseM at h
  split at h
  · cases h; exact .inl ⟨by omega, by omega, rfl, rfl⟩
  · split at h
    · cases h; exact .inr (.inl ⟨by omega, by omega, rfl, rfl⟩)
    · split at h
      · cases h; exact .inr (.inr ⟨by omega, by omega, rfl, rfl⟩)
      · cases h
theorem R_puT {E : Env} {M : Nat} (e : PEnd) : R E (.tup [.int .u64 (e.val M), errI e]) (puTuple 157 M e) := by
  cases e <;> simp [R, RL, puTuple, errI, PEnd.val]
open Go.RowKit in
theorem below_or {w w' : World} {e : TypeId} {s : ByteArray} (h : w' = w ∨ w' = Lib.bytesWorld w e s) : Below w.heap.size w w' := by
  rcases h with rfl | rfl
  · exact Below.refl _ _
  · exact below_bytes _ _ _
theorem runs_PuI : ∀ args r, SPuI args = some r → Runs Tryd.prog 88 args r := by
  intro args r hh
  unfold SPuI at hh
  split at hh
  · rename_i s b w
    split at hh
    · rename_i c M hM
      split at hh
      · rename_i hsz
        cases hh
        refine Runs.of_calls Tryd.func88 (by decide) rfl fun E us hG hr => ?_
        simp only [RL, R] at hr
        obtain ⟨_, _, rfl, rfl, _, _, rfl, rfl, _, _, rfl, rfl, rfl⟩ := hr
        refine ⟨puTuple 157 M (pu c M s.data.toList), ?_, fun E' => R_puT _⟩
        rcases baseM_some hM with ⟨rfl, rfl, rfl, rfl⟩ | ⟨rfl, rfl, rfl, rfl⟩ | ⟨rfl, rfl, rfl, rfl⟩
        · refine (Tryd.internal_strconv_ParseUint_10_at8 s (by omega) E.w).mono ?_
          rintro e w' ⟨rfl, hw⟩
          refine ⟨?_, below_or hw⟩
          have := pu10_tuple 157 (B := 8) (M := 255) (by decide) (by decide) s.data.toList
          rw [← this]; rfl
        · refine (Tryd.internal_strconv_ParseUint_10_at32 s (by omega) E.w).mono ?_
          rintro e w' ⟨rfl, hw⟩
          refine ⟨?_, below_or hw⟩
          have := pu10_tuple 157 (B := 32) (M := 4294967295) (by decide) (by decide) s.data.toList
          rw [← this]; rfl
        · refine (internal_ParseUint_16_at16 { Tryd.laysPu14 with } s (by omega) E.w).mono ?_
          rintro e w' ⟨rfl, hw⟩
          exact ⟨rfl, below_or hw⟩
      · cases hh
    · cases hh
  · cases hh
def STe : List V → Option Res
  | [.str fn, .str s, .int .i64 _, .int .i64 _, .iface t (.int .i64 c)] => if s.size ≤ 281474976710656 ∧ t = 157 ∧ (c = 1 ∨ c = 2) then some ⟨.iface 159 .junk, []⟩ else none
  | _ => none
theorem cell_syn {E : Env} (h : GOK Tryd.prog E) : ∃ ev, E.w.cell? ⟨2, 0, none⟩ = some ev ∧ (ev = .nilIface ∨ ∃ te pe, ev = .iface te pe) := by
  have h1 := h.val 2
  rw [gv_syn] at h1
  simp only [R, RRow] at h1
  obtain ⟨g, o, e, _, _, _, ⟨v, hc, _, u, rfl, _⟩, _⟩ := h1
  cases e
  exact ⟨_, hc, .inr ⟨_, _, rfl⟩⟩
theorem cell_rng {E : Env} (h : GOK Tryd.prog E) : ∃ ev, E.w.cell? ⟨3, 0, none⟩ = some ev ∧ (ev = .nilIface ∨ ∃ te pe, ev = .iface te pe) := by
  have h1 := h.val 3
  rw [gv_rng] at h1
  simp only [R, RRow] at h1
  obtain ⟨g, o, e, _, _, _, ⟨v, hc, _, u, rfl, _⟩, _⟩ := h1
  cases e
  exact ⟨_, hc, .inr ⟨_, _, rfl⟩⟩
theorem cell_max {E : Env} (h : GOK Tryd.prog E) : ∃ m, E.w.cell? ⟨1, 0, none⟩ = some (.int .i64 m) := by
  have h1 := h.val 1
  rw [gv_max] at h1
  simp only [R, RRow] at h1
  obtain ⟨g, o, e, _, _, _, ⟨v, hc, _, u, rfl⟩, _⟩ := h1
  cases e
  exact ⟨_, hc⟩
/-- A contract that also says where the new block is. -/
theorem Runs.of_calls_if {P : Program} [Gl P] {f : FuncId} {fn : Func} {c : Code} (hf : P.funcs[f]? = some fn) (hn : fn.name ≠ "runtime.NumGoroutine") (hb : fn.body = some c) {args : List V} {v : V}
    (h : ∀ (E : Env) (us : List Value), GOK P E → RL E args us → Calls P f us.toArray E.w (fun e w' => ∃ u, (e = .returned u ∧ RowKit.Below E.w.heap.size E.w w') ∧ ∀ E', R E' v u)) : Runs P f args ⟨v, []⟩ := by
  intro E us hD hO hG hargs
  have hc := h E us hG hargs
  unfold CalledX
  rw [run_enter hf hn hb]
  refine Calls.mono hc ?_
  rintro e w' ⟨u, ⟨rfl, hb⟩, hr⟩
  exact ⟨⟨w', E.O, E.σ, fun _ => False⟩, rfl, ⟨fun b hb => hb.elim, hr _, ⟨fun b x hx => by simp [Res.hp] at hx, fun b b' x x' g hx => by simp [Res.hp] at hx⟩, ⟨hb.os, hb.tape, hb.output, hb.size, fun g hg => hb.block g hg, fun h => absurd h (by decide)⟩, fun g _ => Iff.rfl, fun g hg => Nat.lt_of_lt_of_le (hO g hg) hb.size⟩⟩
theorem runs_Te : ∀ args r, STe args = some r → Runs Tryd.prog 89 args r := by
  intro args r hh
  unfold STe at hh
  split at hh
  · rename_i fn s b w t c
    split at hh
    · rename_i hin
      obtain ⟨hsz, rfl, hc⟩ := hin
      cases hh
      refine Runs.of_calls_if Tryd.func89 (by decide) rfl fun E us hG hr => ?_
      simp only [RL, R] at hr
      obtain ⟨_, _, rfl, rfl, _, _, rfl, rfl, _, _, rfl, rfl, _, _, rfl, rfl, _, _, rfl, ⟨_, rfl, rfl⟩, rfl⟩ := hr
      rcases hc with rfl | rfl
      · obtain ⟨ev, h1, h2⟩ := cell_rng hG
        refine (Tryd.strconv_toError_range fn s b w ev E.w hsz h1 h2).mono ?_
        rintro e w' ⟨N, rfl, _, _, hb⟩
        exact ⟨_, ⟨rfl, hb⟩, fun E' => by simp [R]⟩
      · obtain ⟨ev, h1, h2⟩ := cell_syn hG
        refine (Tryd.strconv_toError_syntax fn s b w ev E.w hsz h1 h2).mono ?_
        rintro e w' ⟨N, rfl, _, _, hb⟩
        exact ⟨_, ⟨rfl, hb⟩, fun E' => by simp [R]⟩
    · cases hh
  · cases hh
def errP (e : PEnd) : V := if e.good then .nilif else .iface 159 .junk
def SPu : List V → Option Res
  | [.str s, .int .i64 b, .int .i64 w] => match baseM b w with
    | some (c, M) => if s.size ≤ 281474976710656 then some ⟨.tup [.int .u64 ((pu c M s.data.toList).val M), errP (pu c M s.data.toList)], []⟩ else none
    | none => none
  | _ => none
theorem pu_at {l : List UInt8} {b w : Int} {c M : Nat} (hM : baseM b w = some (c, M)) (h : l.length ≤ 281474976710656) : SPu [.str (bs l), .int .i64 b, .int .i64 w] = some ⟨.tup [.int .u64 (pv c M l), errP (pu c M l)], []⟩ := by
  simp only [SPu, hM, bs_size, bs_data]
  rw [if_pos h]
  rfl
def M_f62 : Md := fun i => some #[]
@[simp] theorem M_f62_eq {i : Nat} : M_f62 i = (some #[]) := rfl
theorem runs_Pu : ∀ args r, SPu args = some r → Runs Tryd.prog 62 args r := by
  intro args r hh
  unfold SPu at hh
  split at hh
  · rename_i s b w
    split at hh
    · rename_i c M hM
      split at hh
      · rename_i hsz
        cases hh
        have h1 : SPuI [.str s, .int .i64 b, .int .i64 w] = some ⟨.tup [.int .u64 ((pu c M s.data.toList).val M), errI (pu c M s.data.toList)], []⟩ := by
          simp only [SPuI, hM]; rw [if_pos hsz]
        have hT : ((T0.add 88 SPuI).add 89 STe).ok Tryd.prog := Tab.add_ok (Tab.add_ok (T0_ok _) runs_PuI) runs_Te
        generalize pu c M s.data.toList = e at *
        refine Runs.of_body Tryd.func62 (by decide) rfl (by simp [Tryd.f62]) ?_
        refine W.of_WE hT mixed M_f62 _ (by kernel_rfl) ?_
        cases e with
        | ok n => simp [Tryd.f62, h1, errI, errP, PEnd.val, PEnd.good]
        | synt => simp [Tryd.f62, h1, errI, errP, PEnd.val, PEnd.good, STe, hsz]
        | over => simp [Tryd.f62, h1, errI, errP, PEnd.val, PEnd.good, STe, hsz]
      · cases hh
    · cases hh
  · cases hh

end Go.Proofs.YtbnjijffkjcmcaaDoor.AL
namespace Go.Proofs.YtbnjijffkjcmcaaDoor.AL
open Go
attribute [local simp] qf cv qbin ibin sbin qun retPost rvOk ctV ctPost marksOk retV resAll resOf V.lt ltL V.ren renL V.exp V.exp1 cleanL V.clean closedL V.closed V.cells V.one V.tree
  loadV cellsAt isNC nilQ isSlD isIfD slNew ownRows ownCells V.isOwn slStore srcO qlook mlook mget mstr zval qnone qmake mput lmap isAggD placesOf fillV putCells lstore bound seqParts V.sh shL Blk.sh newV V.ok peqs peq srcRows qbytes byteSl appOk mmV mmR hidE V.fz fzL Blk.fz fzOk and_assoc
attribute [-simp] Int.not_le Int.not_lt Nat.not_le Nat.not_lt
/-! Searching and splitting. -/
def SIdx : List V → Option Res
  | [.str s, .str sep] => if sep.size ≠ 0 ∧ s.size < 4294967281 then some ⟨.int .i64 (Lib.index s.data.toList sep.data.toList), []⟩ else none
  | _ => none
theorem runs_Idx : ∀ args r, SIdx args = some r → Runs Tryd.prog 83 args r := by
  intro args r hh
  unfold SIdx at hh
  split at hh
  · rename_i s sep
    split at hh
    · rename_i hin
      cases hh
      refine Runs.of_calls Tryd.func83 (by decide) rfl fun E us hG hr => ?_
      simp only [RL, R] at hr
      obtain ⟨_, _, rfl, rfl, _, _, rfl, rfl, rfl⟩ := hr
      obtain ⟨m, hm⟩ := cell_max hG
      refine ⟨.int .i64 (Lib.index s.data.toList sep.data.toList), (Tryd.strings_Index s sep m E.w hin.2 hm).mono ?_, fun E' => by simp [R]⟩
      rintro e w' ⟨rfl, rfl⟩
      exact ⟨rfl, RowKit.Below.refl _ _⟩
    · cases hh
  · cases hh
def SCont : List V → Option Res
  | [.str s, .str sep] => match sep.data.toList with
    | [c] => some ⟨.bool (s.data.toList.contains c), []⟩
    | _ => none
  | _ => none
theorem cont_at {l : List UInt8} {c : UInt8} : SCont [.str (bs l), .str (bs [c])] = some ⟨.bool (l.contains c), []⟩ := by
  simp only [SCont, bs_data]
theorem runs_Cont : ∀ args r, SCont args = some r → Runs Tryd.prog 57 args r := by
  intro args r hh
  unfold SCont at hh
  split at hh
  · rename_i s sep
    split at hh
    · rename_i c hc
      cases hh
      refine Runs.of_calls Tryd.func57 (by decide) rfl fun E us hG hr => ?_
      simp only [RL, R] at hr
      obtain ⟨_, _, rfl, rfl, _, _, rfl, rfl, rfl⟩ := hr
      obtain rfl : sep = bs [c] := ba_ext (by rw [hc, bs_data])
      refine ⟨.bool (s.data.toList.contains c), (Tryd.strings_Contains_one s c E.w).mono ?_, fun E' => by simp [R]⟩
      rintro e w' ⟨rfl, rfl⟩
      exact ⟨by rw [contains_dec], RowKit.Below.refl _ _⟩
    · cases hh
  · cases hh
def SCutS : List V → Option Res
  | [.str s, .str sep] => if sep.size ≠ 0 ∧ s.size < 4294967281 then some ⟨.tup [.str (bs (Lib.cut s.data.toList sep.data.toList).1), .str (bs (Lib.cut s.data.toList sep.data.toList).2.1), .bool (Lib.cut s.data.toList sep.data.toList).2.2], []⟩ else none
  | _ => none
theorem cutS_at {l sep : List UInt8} (hs : sep ≠ []) (hl : l.length < 4294967281) : SCutS [.str (bs l), .str (bs sep)] = some ⟨.tup [.str (bs (Lib.cut l sep).1), .str (bs (Lib.cut l sep).2.1), .bool (Lib.cut l sep).2.2], []⟩ := by
  simp only [SCutS, bs_size, bs_data]
  rw [if_pos ⟨by simpa using hs, hl⟩]
theorem runs_CutS : ∀ args r, SCutS args = some r → Runs Tryd.prog 61 args r := by
  intro args r hh
  unfold SCutS at hh
  split at hh
  · rename_i s sep
    split at hh
    · rename_i hin
      cases hh
      refine Runs.of_calls Tryd.func61 (by decide) rfl fun E us hG hr => ?_
      simp only [RL, R] at hr
      obtain ⟨_, _, rfl, rfl, _, _, rfl, rfl, rfl⟩ := hr
      obtain ⟨m, hm⟩ := cell_max hG
      refine ⟨.tuple #[.string (bs (Lib.cut s.data.toList sep.data.toList).1), .string (bs (Lib.cut s.data.toList sep.data.toList).2.1), .bool (Lib.cut s.data.toList sep.data.toList).2.2], (Tryd.strings_Cut s sep m E.w hin.2 hm).mono ?_, fun E' => ?_⟩
      · rintro e w' ⟨rfl, n, rfl⟩
        exact ⟨rfl, below_drewN _ _⟩
      · simp [R, RL]
    · cases hh
  · cases hh
def SCutP : List V → Option Res
  | [.str s, .str p] => some ⟨.tup [.str (bs (Lib.trimPrefix s.data.toList p.data.toList)), .bool (Lib.hasPrefix s.data.toList p.data.toList)], []⟩
  | _ => none
theorem runs_CutP : ∀ args r, SCutP args = some r → Runs Tryd.prog 65 args r := by
  intro args r hh
  unfold SCutP at hh
  split at hh
  · rename_i s p
    cases hh
    refine Runs.of_calls Tryd.func65 (by decide) rfl fun E us hG hr => ?_
    simp only [RL, R] at hr
    obtain ⟨_, _, rfl, rfl, _, _, rfl, rfl, rfl⟩ := hr
    refine ⟨.tuple #[.string (bs (Lib.trimPrefix s.data.toList p.data.toList)), .bool (Lib.hasPrefix s.data.toList p.data.toList)], (Tryd.strings_CutPrefix s p E.w).mono ?_, fun E' => ?_⟩
    · rintro e w' ⟨rfl, rfl⟩
      exact ⟨rfl, RowKit.Below.refl _ _⟩
    · simp [R, RL]
  · cases hh
/-- Nothing has turned but block c. -/
def ButS (c : Nat) (s s' : St) : Prop := s.nx ≤ s'.nx ∧ ∀ b, b < s.nx → b ≠ c → s'.hp b = s.hp b
/-- What the iterator over pieces does: for each piece it calls yield; the caller brings what it keeps true. -/
def SplC : Ct := fun vs s K _ => ∃ (b c1 c2 c3 : Nat) (sep l : List UInt8), vs = [.yld b, .ptr c1 0, .ptr c2 0, .ptr c3 0] ∧ s.hp c1 = some (.box 9 [.str (bs sep)]) ∧ s.hp c2 = some (.box 9 [.str (bs l)]) ∧ s.hp c3 = some (.box 3 [.int .i64 0]) ∧
  c1 < s.nx ∧ c2 < s.nx ∧ c3 < s.nx ∧ c1 ≠ c2 ∧ c3 ≠ c2 ∧ sep ≠ [] ∧ sep.length < 4294967281 ∧ l.length < 4294967281 ∧ ∃ I : Nat → St → Prop, I 0 s ∧
    (∀ k p s0 s', (pcs sep l)[k]? = some p → I k s0 → ButS c2 s0 s' → CallY Tryd.prog b s' [.str (bs p)]
      (fun v s'' => v = .bool true ∧ I (k + 1) s'' ∧ s'.nx ≤ s''.nx ∧ ∀ x, (x = c1 ∨ x = c2 ∨ x = c3) → s''.hp x = s'.hp x) noX) ∧
    (∀ s0 s', I (pcs sep l).length s0 → ButS c2 s0 s' → K (.tup []) s')
structure SAt (c1 c2 c3 : Nat) (sep : List UInt8) (L : List (List UInt8)) (I : Nat → St → Prop) (u : St) (k : Nat) (l : List UInt8) : Prop where
  h1 : u.hp c1 = some (.box 9 [.str (bs sep)])
  h2 : u.hp c2 = some (.box 9 [.str (bs l)])
  h3 : u.hp c3 = some (.box 3 [.int .i64 0])
  l1 : c1 < u.nx
  l2 : c2 < u.nx
  l3 : c3 < u.nx
  len : l.length < 4294967281
  inv : ∃ s0, I k s0 ∧ ButS c2 s0 u
  rest : L.drop k = pcs sep l
def splSt (b c1 c2 c3 : Nat) (u : St) : St := { tm := fun t => if t = 0 then .yld b else if t = 1 then .ptr c1 0 else if t = 2 then .ptr c2 0 else if t = 3 then .ptr c3 0 else .junk, hp := u.hp, nx := u.nx, nt := 52 }
@[simp] theorem splSt_tm {b c1 c2 c3 : Nat} {u : St} {t : Nat} : (splSt b c1 c2 c3 u).tm t = if t = 0 then .yld b else if t = 1 then .ptr c1 0 else if t = 2 then .ptr c2 0 else if t = 3 then .ptr c3 0 else .junk := rfl
@[simp] theorem splSt_hp {b c1 c2 c3 : Nat} {u : St} : (splSt b c1 c2 c3 u).hp = u.hp := rfl
@[simp] theorem splSt_nx {b c1 c2 c3 : Nat} {u : St} : (splSt b c1 c2 c3 u).nx = u.nx := rfl
@[simp] theorem splSt_nt {b c1 c2 c3 : Nat} {u : St} : (splSt b c1 c2 c3 u).nt = 52 := rfl
@[simp] theorem splSt_top {b c1 c2 c3 : Nat} {u : St} : (splSt b c1 c2 c3 u).top = true := rfl
@[simp] theorem splSt_df {b c1 c2 c3 : Nat} {u : St} : (splSt b c1 c2 c3 u).df = [] := rfl
@[simp] theorem splSt_kp {b c1 c2 c3 : Nat} {u : St} : (splSt b c1 c2 c3 u).kp = true := rfl
structure SI (c1 c2 c3 : Nat) (sep : List UInt8) (L : List (List UInt8)) (I : Nat → St → Prop) where
  u : St
  k : Nat
  l : List UInt8
  at' : SAt c1 c2 c3 sep L I u k l
theorem spl_wk {P : Program} [Gl P] {s' : St} (b c1 c2 c3 : Nat) (h0 : s'.tm 0 = .yld b) (h1 : s'.tm 1 = .ptr c1 0) (h2 : s'.tm 2 = .ptr c2 0) (h3 : s'.tm 3 = .ptr c3 0)
    (e2 : s'.nt = 52) (e3 : s'.top = true) (e4 : s'.df = []) (e5 : s'.kp = true) : Wk P s' (splSt b c1 c2 c3 s') := by
  refine Wk.le ⟨fun t => ?_, fun _ _ h => h, Nat.le_refl _, e2.symm, e3.symm, e4.symm, fun _ => e5⟩
  show (if t = 0 then V.yld b else if t = 1 then V.ptr c1 0 else if t = 2 then V.ptr c2 0 else if t = 3 then V.ptr c3 0 else .junk) = .junk ∨ _
  by_cases q0 : t = 0
  · subst q0; right; rw [h0]; rfl
  · by_cases q1 : t = 1
    · subst q1; right; rw [h1]; rfl
    · by_cases q2 : t = 2
      · subst q2; right; rw [h2]; rfl
      · by_cases q3 : t = 3
        · subst q3; right; rw [h3]; rfl
        · left; rw [if_neg q0, if_neg q1, if_neg q2, if_neg q3]

end Go.Proofs.YtbnjijffkjcmcaaDoor.AL
namespace Go.Proofs.YtbnjijffkjcmcaaDoor.AL
open Go
attribute [local simp] qf cv qbin ibin sbin qun retPost rvOk ctV ctPost marksOk retV resAll resOf V.lt ltL V.ren renL V.exp V.exp1 cleanL V.clean closedL V.closed V.cells V.one V.tree
  loadV cellsAt isNC nilQ isSlD isIfD slNew ownRows ownCells V.isOwn slStore srcO qlook mlook mget mstr zval qnone qmake mput lmap isAggD placesOf fillV putCells lstore bound seqParts V.sh shL Blk.sh newV V.ok peqs peq srcRows qbytes byteSl appOk mmV mmR hidE V.fz fzL Blk.fz fzOk and_assoc
attribute [-simp] Int.not_le Int.not_lt Nat.not_le Nat.not_lt
theorem spl_next {P : Program} [Gl P] {c1 c2 c3 : Nat} {sep : List UInt8} {L : List (List UInt8)} {I : Nat → St → Prop} {s' : St} (b : Nat) (d1 d2 d3 : Nat) (k : Nat) (l : List UInt8) (hk : k < L.length) (hw : SAt c1 c2 c3 sep L I s' (k + 1) l) (h0 : s'.tm 0 = .yld b) (h1 : s'.tm 1 = .ptr c1 0) (h2 : s'.tm 2 = .ptr c2 0) (h3 : s'.tm 3 = .ptr c3 0)
    (e2 : s'.nt = 52) (e3 : s'.top = true) (e4 : s'.df = []) (e5 : s'.kp = true) : ∃ j : SI c1 c2 c3 sep L I, Wk P s' (splSt b c1 c2 c3 j.u) ∧ L.length - j.k < L.length - k :=
  ⟨⟨s', k + 1, l, hw⟩, spl_wk b c1 c2 c3 h0 h1 h2 h3 e2 e3 e4 e5, by show L.length - (k + 1) < L.length - k; omega⟩
theorem spl1_ok {vs : List V} {s : St} {K X : V → St → Prop} (hh : SplC vs s K X) : CallW Tryd.prog 118 s vs K X := by
  obtain ⟨b, c1, c2, c3, sep, l, rfl, hb1, hb2, hb3, hl1, hl2, hl3, hn12, hn32, hsep, hsl, hll, I, hI0, hround, hfin⟩ := hh
  have hT : ((T0.add 83 SIdx).addY (Yself Tryd.prog)).ok Tryd.prog := Tab.addYself_ok (Tab.add_ok (T0_ok _) runs_Idx)
  have hsz : (bs sep).size = 0 ↔ False := by rw [bs_size]; simpa using hsep
  have hsz' : (bs sep).size = sep.length := bs_size sep
  have hsl0 : sep.length ≠ 0 := by simpa using hsep
  obtain ⟨L, hL⟩ : ∃ L, L = pcs sep l := ⟨_, rfl⟩
  rw [← hL] at hround hfin
  refine CallW.of_body Tryd.func118 (by decide) rfl (by simp [Tryd.f118]) ?_
  refine W.wk (s' := splSt b c1 c2 c3 s) ?_ ?_
  · refine Wk.le ⟨fun t => ?_, fun _ _ h => h, Nat.le_refl _, rfl, rfl, rfl, fun _ => rfl⟩
    right
    simp [St.enter, initTm]
    rcases t with _ | _ | _ | _ | t <;> simp
  refine W.seqE hT mixed M0 (by kernel_rfl) ?_
  simp [Tryd.f118, hb1, hsz', hsl0]
  refine W.seq (W.block (W.loop (ι := SI c1 c2 c3 sep L I) (fun i => splSt b c1 c2 c3 i.u) (fun i => L.length - i.k) ⟨{ s with nx := s.nx + 24 }, 0, l, ⟨hb1, hb2, hb3, Nat.lt_of_lt_of_le hl1 (Nat.le_add_right _ _), Nat.lt_of_lt_of_le hl2 (Nat.le_add_right _ _), Nat.lt_of_lt_of_le hl3 (Nat.le_add_right _ _), hll, ⟨s, hI0, Nat.le_add_right _ _, fun _ _ _ => rfl⟩, by rw [hL]; rfl⟩⟩ ?_ ?_))
  · exact Wk.le ⟨fun t => by
      by_cases q0 : t = 0
      · subst q0; right; simp
      · by_cases q1 : t = 1
        · subst q1; right; simp
        · by_cases q2 : t = 2
          · subst q2; right; simp
          · by_cases q3 : t = 3
            · subst q3; right; simp
            · left; simp [q0, q1, q2, q3], fun _ _ h => by simpa using h, by simp, by simp, by simp, by simp, fun _ => by simp⟩
  · rintro ⟨u, k, l, hu⟩
    have h1 := hu.h1
    have h2 := hu.h2
    have h3 := hu.h3
    have l1 := hu.l1
    have l2 := hu.l2
    have l3 := hu.l3
    have hlen := hu.len
    have hrest := hu.rest
    obtain ⟨s0, hI, hbut⟩ := hu.inv
    have hidx : SIdx [.str (bs l), .str (bs sep)] = some ⟨.int .i64 (ixO (cutG sep l)), []⟩ := by
      simp only [SIdx, bs_size, bs_data, index_cutG hsep]
      rw [if_pos ⟨hsl0, hlen⟩]
    cases hc : cutG sep l with
    | none =>
      rw [hc, ixO] at hidx
      rw [pcs_none hc] at hrest
      refine W.block (W.of_WE hT mixed M0 _ (by kernel_rfl) ?_)
      simp [Tryd.f118, h1, h2, h3, hidx]
      refine W.of_WE hT mixed M0 _ (by kernel_rfl) ?_
      simp [Tryd.f118, h1, h2, h3, hidx, Yself]
      have hk : L[k]? = some l := by
        have e : (L.drop k)[0]? = some l := by rw [hrest]; rfl
        simpa using e
      have hlL : L.length = k + 1 := by
        have e := congrArg List.length hrest
        simp at e
        omega
      obtain ⟨q1, q2⟩ := hbut
      refine CallY.mono (hround k l s0 _ hk hI ⟨?_, fun x hx hxc => ?_⟩) ?_ (fun _ _ h => h.elim)
      · simp; omega
      · simpa using q2 x hx hxc
      · rintro v s2 ⟨rfl, hI2, hn2, hkeep⟩
        refine hfin s2 _ (by rw [hlL]; exact hI2) ⟨?_, fun x hx hxc => ?_⟩
        · simp [St.unmark]
        · simp [St.unmark]
    | some p =>
      obtain ⟨a, r⟩ := p
      rw [hc, ixO] at hidx
      rw [pcs_some hsep hc] at hrest
      have hw := cutG_some hc
      have hwl := cutG_len hsep hc
      have hneg : ¬ ((a.length : Int) < 0) := by omega
      have hw1 : IntKind.i64.wrap (a.length : Int) = a.length := wr_i64 (by omega) (by omega)
      have htk : List.take a.length l = a := by rw [hw]; simp
      have hle : (a.length : Int) ≤ l.length := by omega
      have hk : L[k]? = some a := by
        have e : (L.drop k)[0]? = some a := by rw [hrest]; rfl
        simpa using e
      have hkl : k < L.length := (List.getElem?_eq_some_iff.1 hk).1
      obtain ⟨q1, q2⟩ := hbut
      refine W.block (W.seqE hT mixed M0 (by kernel_rfl) ?_)
      simp [Tryd.f118, h1, h2, h3, hidx]
      refine W.seqE hT mixed M0 (by kernel_rfl) ?_
      simp [Tryd.f118, h1, h2, h3, hneg]
      refine W.seqE hT mixed M0 (by kernel_rfl) ?_
      simp [Tryd.f118, h1, h2, h3, bs_size, bs_extract, hw1, htk, hle]
      refine W.seq (W.seqE hT mixed M0 (by kernel_rfl) ?_)
      simp [Yself]
      show CallY _ _ _ _ _ _
      refine CallY.mono (K := fun v s'' => v = .bool true ∧ I (k + 1) s'' ∧ u.nx ≤ s''.nx ∧ s''.hp c1 = u.hp c1 ∧ s''.hp c2 = u.hp c2 ∧ s''.hp c3 = u.hp c3) (X := noX) ?_ ?_ (fun _ _ h => h.elim)
      · refine CallY.mono (hround k a s0 _ hk hI ⟨?_, fun x hx hxc => ?_⟩) ?_ (fun _ _ h => h)
        · simp; omega
        · simpa using q2 x hx hxc
        · rintro v s2 ⟨rfl, hI2, hn2, hkeep⟩
          have g1 := hkeep c1 (.inl rfl)
          have g2 := hkeep c2 (.inr (.inl rfl))
          have g3 := hkeep c3 (.inr (.inr rfl))
          simp at g1 g2 g3 hn2
          exact ⟨rfl, hI2, by omega, g1, g2, g3⟩
      · rintro v s2 ⟨rfl, hI2, hn2, g1, g2, g3⟩
        rw [h1] at g1
        rw [h2] at g2
        rw [h3] at g3
        have hw2 : IntKind.i64.wrap ((a.length : Int) + sep.length) = a.length + sep.length := wr_i64 (by omega) (by omega)
        have hw3 : ((a.length : Int) + sep.length).toNat = a.length + sep.length := by omega
        have hle2 : (a.length : Int) + sep.length ≤ l.length := by omega
        have hp0 : (0 : Int) ≤ (a.length : Int) + sep.length := by omega
        have hdr : List.take (l.length - (a.length + sep.length)) (List.drop (a.length + sep.length) l) = r := by
          rw [show l.length - (a.length + sep.length) = r.length by omega]
          rw [hw, ← List.append_assoc, ← List.length_append, List.drop_left, List.take_length]
        simp [Tryd.f118]
        refine W.of_WE hT mixed M0 _ (by kernel_rfl) ?_
        simp
        refine W.of_WE hT mixed M0 _ (by kernel_rfl) ?_
        simp [g1, g2, g3, bs_size, bs_extract, hw2, hw3, hle2, hp0, hdr, hn12, hn32]
        refine spl_next b c1 c2 c3 k r hkl ⟨?_, ?_, ?_, ?_, ?_, ?_, ?_, ⟨s2, hI2, ?_, fun z hz hzc => ?_⟩, ?_⟩ ?_ ?_ ?_ ?_ ?_ ?_ ?_ ?_
        · simp [hn12, g1]
        · simp
        · simp [hn32, g3]
        · simp; omega
        · simp; omega
        · simp; omega
        · omega
        · simp; omega
        · simp [hzc]
        · have e2 : L.drop (k + 1) = (L.drop k).drop 1 := by rw [List.drop_drop]
          rw [e2, hrest]
          rfl
        all_goals simp
/-- The iterator, made. -/
def SSpl : List V → Option Res
  | [.str s, .str sep, .int .i64 n] => if n = 0 then some ⟨.fn 118 [] [.ptr 1 0, .ptr 0 0, .ptr 2 0], [.box 9 [.str s], .box 9 [.str sep], .box 3 [.int .i64 0]]⟩ else none
  | _ => none
theorem runs_splitSeq : ∀ args r, SSpl args = some r → Runs Tryd.prog 101 args r := by
  intro args r hh
  unfold SSpl at hh
  split at hh
  · split at hh
    · rename_i h
      subst h
      cases hh
      refine Runs.of_body Tryd.func101 (by decide) rfl (by simp [Tryd.f101]) ?_
      refine W.of_WE (T0_ok _) mixed M0 _ (by kernel_rfl) ?_
      simp [Tryd.f101]
      exact ⟨0, 8, by decide, 16, by decide, by decide, by simp, by simp, by simp, rfl, rfl, rfl⟩
    · cases hh
  · cases hh
def SSpQ : List V → Option Res
  | [.str s, .str sep] => some ⟨.fn 118 [] [.ptr 1 0, .ptr 0 0, .ptr 2 0], [.box 9 [.str s], .box 9 [.str sep], .box 3 [.int .i64 0]]⟩
  | _ => none
theorem runs_SplitSeq : ∀ args r, SSpQ args = some r → Runs Tryd.prog 82 args r := by
  intro args r hh
  unfold SSpQ at hh
  split at hh
  · cases hh
    have hT : (T0.add 101 SSpl).ok Tryd.prog := Tab.add_ok (T0_ok _) runs_splitSeq
    refine Runs.of_body Tryd.func82 (by decide) rfl (by simp [Tryd.f82]) ?_
    refine W.of_WE hT mixed M0 _ (by kernel_rfl) ?_
    simp [Tryd.f82, SSpl]
    exact ⟨24, 25, by decide, 26, by decide, by decide, by simp, by simp, by simp, rfl, rfl, rfl⟩
  · cases hh

end Go.Proofs.YtbnjijffkjcmcaaDoor.AL
