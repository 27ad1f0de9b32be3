import Derived.Test.YtbnjijffkjcmcaaDoorZW6
import Derived.Test.YtbnjijffkjcmcaaDoorZW1
import Derived.Shelf.Strings.Builder1
import Derived.Shelf.Strings.Builder2
import Derived.Shelf.Strings.OnBuilder
import Derived.Shelf.Small.Wraps
import Derived.Shelf.Strconv.Itoa0
import Derived.Shelf.Strconv.Itoa1
import Derived.Shelf.LaysM
import Derived.Shelf.Strconv.Itoa2
import Derived.Shelf.Strconv.Itoa3
import Derived.Shelf.Strconv.Clone
import Derived.Shelf.Strconv.SyntaxError
import Derived.Shelf.LaysC
import Derived.Shelf.Strconv.ToError
import Derived.Shelf.Strconv.Lower
import Derived.Shelf.Strconv.ParseUint10
import Derived.Shelf.Strconv.RangeError
import Derived.Shelf.Strconv.ToErrorRange
import Derived.Shelf.Strconv.ParseUintEmpty
import Derived.Shelf.Strconv.ParseUint10b64
import Derived.Shelf.Strconv.ParseUint10b32
import Derived.Shelf.Strconv.ParseUint10b16
import Derived.Shelf.Strconv.ParseUint10b8
import Derived.Shelf.Strconv.ParseUint10At
import Derived.Ground.MpProg
import Derived.Shelf.Pu.ParseUintPublic10
import Derived.Shelf.Pu.ErrVarParseUint
import Derived.Shelf.Strings.Search1
import Derived.Shelf.Strings.Search2
import Derived.Shelf.Strings.Search3
import Derived.Shelf.Strings.Cut
import Derived.Shelf.Strings.Shaped
import Derived.Shelf.Strings.Prefix
import Derived.Shelf.Unicode.DecodeSlow
import Derived.Test.YtbnjijffkjcmcaaDoorProg
/- What single functions compute: a part of the proof; no conditions. -/
set_option linter.unusedVariables false
set_option linter.unusedSimpArgs false
set_option maxRecDepth 100000
set_option linter.unusedSectionVars false
namespace Go.Proofs.YtbnjijffkjcmcaaDoor.AL
open Go
attribute [local simp] qf cv qbin ibin sbin qun retPost rvOk ctV ctPost marksOk retV resAll resOf V.lt ltL V.ren renL V.exp V.exp1 cleanL V.clean closedL V.closed V.cells V.one V.tree
  loadV cellsAt isNC nilQ isSlD isIfD slNew ownRows ownCells V.isOwn slStore srcO qlook mlook mget mstr zval qnone qmake mput lmap isAggD placesOf fillV putCells lstore bound seqParts V.sh shL Blk.sh newV V.ok peqs peq srcRows qbytes byteSl appOk mmV mmR hidE V.fz fzL Blk.fz fzOk and_assoc
attribute [-simp] Int.not_le Int.not_lt Nat.not_le Nat.not_lt
/-! FormatUint in base 16. -/
def digs : ByteArray := ⟨#[48, 49, 50, 51, 52, 53, 54, 55, 56, 57, 97, 98, 99, 100, 101, 102, 103, 104, 105, 106, 107, 108, 109, 110, 111, 112, 113, 114, 115, 116, 117, 118, 119, 120, 121, 122]⟩
theorem runs_Tz64_16 : Runs Tryd.prog 127 [.int .u64 16] ⟨.int .i64 4, []⟩ := by
  refine Runs.of_body Tryd.func127 (by decide) rfl (by simp [Tryd.f127]) ?_
  have e1 : IntKind.u64.wrap (-16) = 18446744073709551600 := by decide
  have e2 : bAnd .u64 16 18446744073709551600 = 16 := by decide
  have e3 : IntKind.u64.wrap 4573923408821661840 = 4573923408821661840 := by decide
  have e4 : bShr .u64 4573923408821661840 58 = 15 := by decide
  have e5 : IntKind.i64.wrap 4 = 4 := by decide
  refine W.of_WE (T0_ok _) mixed M0 _ (by kernel_rfl) ?_
  simp [Tryd.f127, e1, e2, e3, e4, e5, tab64]

theorem runs_Tz_16 : Runs Tryd.prog 115 [.int .u64 16] ⟨.int .i64 4, []⟩ := by
  have hT : (T0.add 127 (oneS [.int .u64 16] ⟨.int .i64 4, []⟩)).ok Tryd.prog := Tab.add_ok (T0_ok _) (oneS_ok runs_Tz64_16)
  have ho := oneS_self (args := [.int .u64 16]) (r := ⟨.int .i64 4, []⟩)
  have e1 : IntKind.u64.wrap 16 = 16 := by decide
  refine Runs.of_body Tryd.func115 (by decide) rfl (by simp [Tryd.f115]) ?_
  refine W.of_WE hT mixed M0 _ (by kernel_rfl) ?_
  simp [Tryd.f115, ho]
theorem runs_pow2_16 : Runs Tryd.prog 114 [.int .i64 16] ⟨.bool true, []⟩ := by
  have e1 : IntKind.i64.wrap 15 = 15 := by decide
  have e2 : bAnd .i64 16 15 = 0 := by decide
  refine Runs.of_body Tryd.func114 (by decide) rfl (by simp [Tryd.f114]) ?_
  refine W.of_WE (T0_ok _) mixed M0 _ (by kernel_rfl) ?_
  simp [Tryd.f114, e1, e2]
def hdg (n : Int) : Int := sat digs n
def hx (x : Nat) : Nat → List Int
  | 0 => []
  | k + 1 => hdg ((x / 16 ^ k % 16 : Nat) : Int) :: hx x k
theorem hx_len (x : Nat) : ∀ k, (hx x k).length = k
  | 0 => rfl
  | k + 1 => by simp [hx, hx_len x k]
/-- How many digits come behind the first one. -/
def hkF : Nat → Nat → Nat
  | 0, _ => 0
  | f + 1, x => if x < 16 then 0 else hkF f (x / 16) + 1
def hexL (x : Nat) : List Int := hx x (hkF 16 x + 1)
def hexS (x : Nat) : ByteArray := strR ((hexL x).map fun n => [.int .u8 n])
def arrH (x k : Nat) : List V := (List.replicate (65 - k) 0 ++ hx x k).map (V.int .u8)
theorem arrH_len {x k : Nat} (h : k ≤ 65) : (arrH x k).length = 65 := by simp [arrH, hx_len]; omega
theorem arrH_set {x k : Nat} (h : k ≤ 64) : (arrH x k).set (64 - k) (.int .u8 (hdg ((x / 16 ^ k % 16 : Nat) : Int))) = arrH x (k + 1) := by
  unfold arrH
  rw [← List.map_set, show 65 - k = (64 - k) + 1 by omega, List.replicate_succ', List.append_assoc, List.set_append_right _ _ (by simp)]
  simp [hx, show 65 - (k + 1) = 64 - k by omega]
theorem ints_ren (ns : List Nat) : ∀ l : List Int, renL ns (l.map (V.int .u8)) = l.map (V.int .u8)
  | [] => rfl
  | x :: l => by simp only [List.map_cons, renL, ints_ren ns l, V.ren]
theorem ints_lt (n : Nat) : ∀ l : List Int, ltL n (l.map (V.int .u8)) = true
  | [] => rfl
  | x :: l => by simp only [List.map_cons, ltL, ints_lt n l, V.lt, Bool.and_true]
@[simp] theorem arrH_ren (ns : List Nat) (x k : Nat) : renL ns (arrH x k) = arrH x k := ints_ren ns _
@[simp] theorem arrH_lt (n x k : Nat) : ltL n (arrH x k) = true := ints_lt n _
theorem chunk_ints : ∀ (l : List Int), chunkV 1 l.length (l.map (V.int .u8)) = l.map fun n => [V.int .u8 n]
  | [] => rfl
  | x :: l => by
    simp only [List.length_cons, List.map_cons, chunkV]
    have := chunk_ints l
    simp [this]
theorem arrH_chunk {x K : Nat} (h : K ≤ 64) : List.take (65 - (64 - K)) (List.drop (64 - K) (chunkV 1 65 (arrH x (K + 1)))) = (hx x (K + 1)).map fun n => [V.int .u8 n] := by
  have hl : (List.replicate (65 - (K + 1)) (0 : Int) ++ hx x (K + 1)).length = 65 := by simp [hx_len]; omega
  have := chunk_ints (List.replicate (65 - (K + 1)) (0 : Int) ++ hx x (K + 1))
  rw [hl] at this
  unfold arrH
  rw [this, List.map_append, show 65 - (K + 1) = 64 - K by omega]
  rw [List.drop_left' (by simp), List.take_of_length_le (by simp [hx_len]; omega)]
theorem arrH_tree (x k : Nat) : ∀ c ∈ arrH x k, c.tree = true := by
  intro c hc
  obtain ⟨n, _, rfl⟩ := List.mem_map.1 hc
  rfl
theorem hk_step {f x : Nat} (h : 16 ≤ x) : hkF (f + 1) x = hkF f (x / 16) + 1 := by
  rw [hkF, if_neg (by omega)]
theorem hk_end {f x : Nat} (h : x < 16) : hkF f x = 0 := by
  cases f with
  | zero => rfl
  | succ f => rw [hkF, if_pos h]
noncomputable def SFb16 : List V → Option Res
  | [.nils, .int .u64 x, .int .i64 16, .bool false, .bool false] => ifC (0 ≤ x ∧ x < 18446744073709551616) (some ⟨.tup [.nils, .str (hexS x.toNat)], []⟩)
  | _ => none
def M_f98 : Md := fun i => some #[]
@[simp] theorem M_f98_eq {i : Nat} : M_f98 i = (some #[]) := rfl
theorem runs_formatBits16 : ∀ args r, SFb16 args = some r → Runs Tryd.prog 98 args r := by
  intro args r hh
  unfold SFb16 ifC at hh
  split at hh
  · rename_i x0
    split at hh
    · rename_i hin
      obtain ⟨x, rfl⟩ := Int.eq_ofNat_of_zero_le hin.1
      have hx := hin.2
      cases hh
      change Runs _ _ [.nils, .int .u64 (x : Int), .int .i64 16, .bool false, .bool false] ⟨.tup [.nils, .str (hexS x)], []⟩
      have hT : ((T0.add 115 (oneS [.int .u64 16] ⟨.int .i64 4, []⟩)).add 114 (oneS [.int .i64 16] ⟨.bool true, []⟩)).ok Tryd.prog := Tab.add_ok (Tab.add_ok (T0_ok _) (oneS_ok runs_Tz_16)) (oneS_ok runs_pow2_16)
      have h1 := oneS_self (args := [.int .u64 16]) (r := ⟨.int .i64 4, []⟩)
      have h2 := oneS_self (args := [.int .i64 16]) (r := ⟨.bool true, []⟩)
      have w16 : IntKind.u64.wrap 16 = 16 := by decide
      have w15 : IntKind.u64.wrap 15 = 15 := by decide
      have w4 : IntKind.u64.wrap 4 = 4 := by decide
      have hk0 : x / 16 ^ 15 < 16 := by
        have : (x : Int) < 18446744073709551616 := hx
        omega
      refine Runs.of_body Tryd.func98 (by decide) rfl (by simp [Tryd.f98]) ?_
      refine W.seqE hT mixed M_f98 (by kernel_rfl) ?_
      simp [Tryd.f98]
      refine W.seqE hT mixed M_f98 (by kernel_rfl) ?_
      simp
      refine W.seqE hT mixed M_f98 (by kernel_rfl) ?_
      simp
      refine W.cut True [(1, .int .u64 (x : Int)), (2, .int .i64 16), (3, .bool false), (4, .bool false), (10, .nils), (12, .ptr 0 0), (13, .int .i64 65)] [.box 164 (arrH x 0)] 102 ?_ ?_
      · refine W.of_WE hT mixed M_f98 _ (by kernel_rfl) ?_
        simp
        rfl
      intro _
      refine W.seqE hT mixed M_f98 (by kernel_rfl) ?_
      simp
      have hlen := fun k (h : k ≤ 65) => arrH_len (x := x) h
      refine W.cut (hkF 16 x ≤ 15) [(3, .bool false), (4, .bool false), (10, .nils), (12, .ptr 0 0), (13, .int .i64 (64 - (hkF 16 x : Int)))] [.box 164 (arrH x (hkF 16 x + 1))] 102 ?_ ?_
      · refine W.seqE hT mixed M_f98 (by kernel_rfl) ?_
        simp [h2]
        refine W.cond true (by simp) (fun _ => ?_) (by simp)
        refine W.seqE hT mixed M_f98 (by kernel_rfl) ?_
        simp [h1, w16, w4]
        refine W.seqE hT mixed M_f98 (by kernel_rfl) ?_
        simp [w16]
        refine W.seqE hT mixed M_f98 (by kernel_rfl) ?_
        simp [w16, w15]
        refine W.cut (hkF 16 x ≤ 15 ∧ x / 16 ^ hkF 16 x < 16) [(1, .int .u64 ((x / 16 ^ hkF 16 x : Nat) : Int)), (3, .bool false), (4, .bool false), (10, .nils), (12, .ptr 0 0), (13, .int .i64 (65 - (hkF 16 x : Int)))] [.box 164 (arrH x (hkF 16 x))] 102 ?_ ?_
        · refine W.block (W.for (fun k => k ≤ 15 ∧ hkF 16 x = k + hkF (16 - k) (x / 16 ^ k)) (fun k => [(1, .int .u64 ((x / 16 ^ k : Nat) : Int)), (3, .bool false), (4, .bool false), (10, .nils), (12, .ptr 0 0), (13, .int .i64 (65 - (k : Int))), (14, .int .u64 4), (15, .int .u64 16), (16, .int .u64 15)]) (fun k => [.box 164 (arrH x k)]) 102 16 ⟨by omega, by simp⟩ ?_ ?_)
          · simp
            skip
          · intro k hk hJ
            refine W.of_WE hT mixed M_f98 _ (by kernel_rfl) ?_
            have hw1 : IntKind.i64.wrap (65 - (k : Int) - 1) = 64 - k := by rw [wr_i64 (by omega) (by omega)]; omega
            have hset := arrH_set (x := x) (k := k) (by omega)
            have hl := hlen k (by omega)
            have hz : x / 16 ^ (k + 1) = x / 16 ^ k / 16 := by rw [Nat.pow_succ, ← Nat.div_div_eq_div_mul]
            have hx64 : x / 16 ^ k < 18446744073709551616 := Nat.lt_of_le_of_lt (Nat.div_le_self _ _) (by omega)
            have h15 : k = 15 → x / 16 ^ k < 16 := fun e => by subst e; exact hk0
            obtain ⟨hJ1, hJ2⟩ := hJ
            by_cases he : x / 16 ^ k < 16
            · have hkk : hkF (16 - k) (x / 16 ^ k) = 0 := hk_end he
              have hek : hkF 16 x = k := by omega
              rw [hek]
              generalize x / 16 ^ k = y at *
              have h16' : ¬ (16 : Int) ≤ (y : Int) := by omega
              simp [h16']
              exact ⟨hJ1, he⟩
            · have hk14 : k ≤ 14 := by
                rcases Nat.lt_or_ge k 15 with g | g
                · omega
                · exact absurd (h15 (by omega)) he
              rw [hz]
              generalize x / 16 ^ k = y at *
              have hkk : hkF (16 - k) y = hkF (15 - k) (y / 16) + 1 := by
                rw [show 16 - k = (15 - k) + 1 by omega, hk_step (by omega)]
              have h16' : (16 : Int) ≤ (y : Int) := by omega
              have e16 : ((2 : Int) ^ 4) = 16 := by decide
              have hs4 : bShr .u64 (y : Int) 4 = (y : Int) / 16 := by
                rw [show (4 : Int) = ((4 : Nat) : Int) from rfl, bShr_nat (by omega), e16]
              have ha : bAnd .u64 (y : Int) 15 = (y : Int) % 16 := by
                rw [bAnd_u64' (by omega) (by omega) (by omega) (by omega)]
                have : (y : Int).toNat &&& (15 : Int).toNat = y % 16 := Nat.and_two_pow_sub_one_eq_mod y 4
                rw [this]; omega
              have hset' : (arrH x k).set (64 - k) (.int .u8 (hdg ((y : Int) % 16))) = arrH x (k + 1) := by
                rw [show ((y : Int) % 16) = ((y % 16 : Nat) : Int) by omega]; exact hset
              unfold hdg digs at hset'
              have hsz : ((⟨#[48, 49, 50, 51, 52, 53, 54, 55, 56, 57, 97, 98, 99, 100, 101, 102, 103, 104, 105, 106, 107, 108, 109, 110, 111, 112, 113, 114, 115, 116, 117, 118, 119, 120, 121, 122]⟩ : ByteArray).size : Int) = 36 := rfl
              simp [hw1, hs4, ha, h16', hl, hsz]
              exact ⟨by omega, by omega, by omega, by omega, by omega, hk14, by omega, by omega, hset'⟩
        rintro ⟨h15, hlt⟩
        have hset := arrH_set (x := x) (k := hkF 16 x) (by omega)
        have hl := hlen (hkF 16 x) (by omega)
        rw [Nat.mod_eq_of_lt hlt] at hset
        generalize hkF 16 x = K at *
        have hw1 : IntKind.i64.wrap (65 - (K : Int) - 1) = 64 - K := by rw [wr_i64 (by omega) (by omega)]; omega
        generalize x / 16 ^ K = y at *
        unfold hdg digs at hset
        have hsz : ((⟨#[48, 49, 50, 51, 52, 53, 54, 55, 56, 57, 97, 98, 99, 100, 101, 102, 103, 104, 105, 106, 107, 108, 109, 110, 111, 112, 113, 114, 115, 116, 117, 118, 119, 120, 121, 122]⟩ : ByteArray).size : Int) = 36 := rfl
        refine W.of_WE hT mixed M_f98 _ (by kernel_rfl) ?_
        simp [hw1, hl, hsz]
        exact ⟨by omega, by omega, by omega, h15, hset⟩
      intro h15
      refine W.seqE hT mixed M_f98 (by kernel_rfl) ?_
      simp
      refine W.seqE hT mixed M_f98 (by kernel_rfl) ?_
      simp
      refine W.wk (Wk.freeze 0 (.box 164 (arrH x (hkF 16 x + 1))) (by simp) (arrH_tree x _)) ?_
      refine W.of_WE hT mixed M_f98 _ (by kernel_rfl) ?_
      simp
      have hm : (65 : Nat) ≤ maxLen := by decide
      refine ⟨by rw [hlen _ (by omega)]; omega, hm, by omega, by omega, ?_, ?_⟩
      · rw [arrH_chunk (by omega)]
        intro r hr
        obtain ⟨n, _, rfl⟩ := List.mem_map.1 hr
        rfl
      · rw [arrH_chunk (by omega)]; rfl
    · cases hh
  · cases hh

end Go.Proofs.YtbnjijffkjcmcaaDoor.AL
namespace Go.Proofs.YtbnjijffkjcmcaaDoor.AL
open Go
attribute [local simp] qf cv qbin ibin sbin qun retPost rvOk ctV ctPost marksOk retV resAll resOf V.lt ltL V.ren renL V.exp V.exp1 cleanL V.clean closedL V.closed V.cells V.one V.tree
  loadV cellsAt isNC nilQ isSlD isIfD slNew ownRows ownCells V.isOwn slStore srcO qlook mlook mget mstr zval qnone qmake mput lmap isAggD placesOf fillV putCells lstore bound seqParts V.sh shL Blk.sh newV V.ok peqs peq srcRows qbytes byteSl appOk mmV mmR hidE V.fz fzL Blk.fz fzOk and_assoc
attribute [-simp] Int.not_le Int.not_lt Nat.not_le Nat.not_lt
noncomputable def SFu16 : List V → Option Res
  | [.int .u64 x, .int .i64 16] => ifC (0 ≤ x ∧ x < 18446744073709551616) (some ⟨.str (hexS x.toNat), []⟩)
  | _ => none
theorem fu16_at {x : Nat} (h : x < 18446744073709551616) : SFu16 [.int .u64 (x : Int), .int .i64 16] = some ⟨.str (hexS x), []⟩ := by
  simp only [SFu16]; rw [ifC_pos ⟨by omega, by omega⟩]; rfl
theorem runs_iFormatUint16 : ∀ args r, SFu16 args = some r → Runs Tryd.prog 77 args r := by
  intro args r hh
  unfold SFu16 ifC at hh
  split at hh
  · rename_i x
    split at hh
    · rename_i hin
      cases hh
      have hf : SFb16 [.nils, .int .u64 x, .int .i64 16, .bool false, .bool false] = some ⟨.tup [.nils, .str (hexS x.toNat)], []⟩ := by
        simp only [SFb16]; rw [ifC_pos hin]
      have hT : (T0.add 98 SFb16).ok Tryd.prog := Tab.add_ok (T0_ok _) runs_formatBits16
      generalize hexS x.toNat = H at *
      refine Runs.of_body Tryd.func77 (by decide) rfl (by simp [Tryd.f77]) ?_
      refine W.of_WE hT mixed M0 _ (by kernel_rfl) ?_
      simp [Tryd.f77, hf]
    · cases hh
  · cases hh
theorem runs_FormatUint16 : ∀ args r, SFu16 args = some r → Runs Tryd.prog 49 args r := by
  intro args r hh
  have h0 := hh
  unfold SFu16 ifC at hh
  split at hh
  · rename_i x
    split at hh
    · rename_i hin
      cases hh
      have hT : (T0.add 77 SFu16).ok Tryd.prog := Tab.add_ok (T0_ok _) runs_iFormatUint16
      generalize hexS x.toNat = H at *
      refine Runs.of_body Tryd.func49 (by decide) rfl (by simp [Tryd.f49]) ?_
      refine W.of_WE hT mixed M0 _ (by kernel_rfl) ?_
      simp [Tryd.f49, h0]
    · cases hh
  · cases hh

end Go.Proofs.YtbnjijffkjcmcaaDoor.AL
namespace Go.Proofs
open Go.Shelf
def Tryd.lays156_ren : Go.Shelf.Ren := ⟨fun | 156 => 50 | 165 => 78 | 166 => 79 | 169 => 80 | 240 => 99 | 241 => 100 | 276 => 116 | 277 => 117 | n => n, fun | 31 => 62 | 9 => 9 | 3 => 3 | 4 => 4 | 0 => 0 | 20 => 20 | 72 => 131 | 76 => 133 | 70 => 128 | 37 => 129 | 75 => 105 | 127 => 154 | 164 => 167 | 5 => 5 | 80 => 135 | n => n, fun | n => n⟩
theorem Tryd.lays156 : Go.Proofs.Lays.n156 Tryd.prog Tryd.lays156_ren := {
  mixed := by kernel_rfl
  f156 := Tryd.func50.trans (congrArg some (by kernel_rfl))
  f165 := Tryd.func78.trans (congrArg some (by kernel_rfl))
  f166 := Tryd.func79.trans (congrArg some (by kernel_rfl))
  f169 := Tryd.func80.trans (congrArg some (by kernel_rfl))
  f240 := Tryd.func99.trans (congrArg some (by kernel_rfl))
  f241 := Tryd.func100.trans (congrArg some (by kernel_rfl))
  f276 := Tryd.func116.trans (congrArg some (by kernel_rfl))
  f277 := Tryd.func117.trans (congrArg some (by kernel_rfl))
  t0 := Tryd.underlying0
  a0 := Tryd.isAgg0
  z0 := Tryd.sizeOf0
  v0 := Tryd.zeroValue0
  t3 := Tryd.underlying3
  a3 := Tryd.isAgg3
  z3 := Tryd.sizeOf3
  v3 := Tryd.zeroValue3
  t4 := Tryd.underlying4
  a4 := Tryd.isAgg4
  z4 := Tryd.sizeOf4
  v4 := Tryd.zeroValue4
  t9 := Tryd.underlying9
  a9 := Tryd.isAgg9
  z9 := Tryd.sizeOf9
  v9 := Tryd.zeroValue9
  t20 := Tryd.underlying20
  a20 := Tryd.isAgg20
  z20 := Tryd.sizeOf20
  v20 := Tryd.zeroValue20
  t31 := Tryd.underlying62
  a31 := Tryd.isAgg62
  z31 := Tryd.sizeOf62
  v31 := Tryd.zeroValue62
  t37 := Tryd.underlying129
  a37 := Tryd.isAgg129
  z37 := Tryd.sizeOf129
  v37 := Tryd.zeroValue129
  t70 := Tryd.underlying128
  a70 := Tryd.isAgg128
  z70 := Tryd.sizeOf128
  v70 := Tryd.zeroValue128
  t72 := Tryd.underlying131
  a72 := Tryd.isAgg131
  z72 := Tryd.sizeOf131
  v72 := Tryd.zeroValue131
  t75 := Tryd.underlying105
  a75 := Tryd.isAgg105
  z75 := Tryd.sizeOf105
  v75 := Tryd.zeroValue105
  t76 := Tryd.underlying133
  a76 := Tryd.isAgg133
  z76 := Tryd.sizeOf133
  v76 := Tryd.zeroValue133
  t127 := Tryd.underlying154
  a127 := Tryd.isAgg154
  z127 := Tryd.sizeOf154
  v127 := Tryd.zeroValue154
  t164 := Tryd.underlying167
  a164 := Tryd.isAgg167
  z164 := Tryd.sizeOf167
  v164 := Tryd.zeroValue167 }
theorem Tryd.Builder_Extra_156 : Builder.Extra Tryd.prog Tryd.lays156_ren := {
  sizeBuilder := by kernel_rfl
  liesBuilder := by kernel_rfl
  t5 := Tryd.underlying5
  a5 := Tryd.isAgg5
  z5 := Tryd.sizeOf5
  v5 := Tryd.zeroValue5
  infoByte := by kernel_rfl
  cellsByte := by kernel_rfl
  sizeByte := by kernel_rfl
  neB5 := by decide }
open Go.RowKit in
theorem Tryd.strings_Join_none (a : Option Addr) (c : Nat) (sep : ByteArray) (w : World) :
    Calls Tryd.prog 50 #[.slice a 0 c, .string sep] w fun e w' => e = .returned (.string ⟨#[]⟩) ∧ w' = w := Any.strings_Join_none Tryd.lays156 Tryd.Builder_Extra_156 a c sep w
open Go.RowKit in
theorem Tryd.strings_Join (bk o c : Nat) (xs : List ByteArray) (sep : ByteArray) (w : World) (hcells : ∀ (j : Nat) x, xs[j]? = some x → w.cell? ⟨bk, o + j, none⟩ = some (.string x)) (hbk : bk < w.heap.size) (hN : xs.length ≤ 140737488355328) (hcap : xs.length ≤ c) (hlen : (Lib.join (xs.map (·.data.toList)) sep.data.toList).length ≤ 140737488355328) :
    Calls Tryd.prog 50 #[.slice (some ⟨bk, o, none⟩) xs.length c, .string sep] w fun e w' => e = .returned (.string ⟨(Lib.join (xs.map (·.data.toList)) sep.data.toList).toArray⟩) ∧ Below w.heap.size w w' := Any.strings_Join Tryd.lays156 Tryd.Builder_Extra_156 bk o c xs sep w hcells hbk hN hcap hlen
def Tryd.lays103_ren : Go.Shelf.Ren := ⟨fun | 103 => 65 | 210 => 91 | 206 => 110 | n => n, fun | 9 => 9 | 4 => 4 | 24 => 111 | 3 => 3 | n => n, fun | n => n⟩
theorem Tryd.lays103 : Go.Proofs.Lays.n103 Tryd.prog Tryd.lays103_ren := {
  mixed := by kernel_rfl
  f103 := Tryd.func65.trans (congrArg some (by kernel_rfl))
  f206 := Tryd.func110.trans (congrArg some (by kernel_rfl))
  f210 := Tryd.func91.trans (congrArg some (by kernel_rfl))
  t3 := Tryd.underlying3
  a3 := Tryd.isAgg3
  z3 := Tryd.sizeOf3
  v3 := Tryd.zeroValue3
  t4 := Tryd.underlying4
  a4 := Tryd.isAgg4
  z4 := Tryd.sizeOf4
  v4 := Tryd.zeroValue4
  t9 := Tryd.underlying9
  a9 := Tryd.isAgg9
  z9 := Tryd.sizeOf9
  v9 := Tryd.zeroValue9
  t24 := Tryd.underlying111
  a24 := Tryd.isAgg111
  z24 := Tryd.sizeOf111
  v24 := Tryd.zeroValue111 }
open Go.RowKit in
theorem Tryd.strings_CutPrefix (s p : ByteArray) (w : World) :
    Calls Tryd.prog 65 #[.string s, .string p] w fun e w' => e = .returned (.tuple #[.string ⟨(Lib.trimPrefix s.data.toList p.data.toList).toArray⟩, .bool (Lib.hasPrefix s.data.toList p.data.toList)]) ∧ w' = w := Any.strings_CutPrefix Tryd.lays103 s p w
def Tryd.lays283_ren : Go.Shelf.Ren := ⟨fun | 283 => 95 | n => n, fun | 3 => 3 | 9 => 9 | 4 => 4 | n => n, fun | n => n⟩
theorem Tryd.lays283 : Go.Proofs.Lays.n283 Tryd.prog Tryd.lays283_ren := {
  mixed := by kernel_rfl
  f283 := Tryd.func95.trans (congrArg some (by kernel_rfl))
  t3 := Tryd.underlying3
  a3 := Tryd.isAgg3
  z3 := Tryd.sizeOf3
  v3 := Tryd.zeroValue3
  t4 := Tryd.underlying4
  a4 := Tryd.isAgg4
  z4 := Tryd.sizeOf4
  v4 := Tryd.zeroValue4
  t9 := Tryd.underlying9
  a9 := Tryd.isAgg9
  z9 := Tryd.sizeOf9
  v9 := Tryd.zeroValue9 }
open Go.Lib in
theorem Tryd.internal_strconv_small (i : Nat) (h : i < 100) (w : World) :
    Calls Tryd.prog 95 #[.int .i64 i] w fun e w' => e = .returned (.string ⟨(Lib.decDigits i).toArray⟩) ∧ w' = w := Any.internal_strconv_small Tryd.lays283 i h w
def Tryd.laysM284_ren : Go.Shelf.Ren := ⟨fun | 284 => 96 | 129 => 112 | 317 => 111 | 318 => 113 | n => n, fun | 53 => 22 | 3 => 3 | 212 => 163 | 0 => 0 | 4 => 4 | 46 => 140 | 5 => 5 | 9 => 9 | n => n, fun | 17 => 0 | n => n⟩
theorem Tryd.laysM284 : Go.Proofs.LaysM.n284 Tryd.prog Tryd.laysM284_ren := {
  mixed := by kernel_rfl
  f129 := Tryd.func112.trans (congrArg some (by kernel_rfl))
  f284 := Tryd.func96.trans (congrArg some (by kernel_rfl))
  f317 := Tryd.func111.trans (congrArg some (by kernel_rfl))
  f318 := Tryd.func113.trans (congrArg some (by kernel_rfl))
  t0 := Tryd.underlying0
  a0 := Tryd.isAgg0
  z0 := Tryd.sizeOf0
  v0 := Tryd.zeroValue0
  t3 := Tryd.underlying3
  a3 := Tryd.isAgg3
  z3 := Tryd.sizeOf3
  v3 := Tryd.zeroValue3
  t4 := Tryd.underlying4
  a4 := Tryd.isAgg4
  z4 := Tryd.sizeOf4
  v4 := Tryd.zeroValue4
  t5 := Tryd.underlying5
  a5 := Tryd.isAgg5
  z5 := Tryd.sizeOf5
  v5 := Tryd.zeroValue5
  t9 := Tryd.underlying9
  a9 := Tryd.isAgg9
  z9 := Tryd.sizeOf9
  v9 := Tryd.zeroValue9
  t46 := Tryd.underlying140
  a46 := Tryd.isAgg140
  z46 := Tryd.sizeOf140
  v46 := Tryd.zeroValue140
  t53 := Tryd.underlying22
  a53 := Tryd.isAgg22
  z53 := Tryd.sizeOf22
  v53 := Tryd.zeroValue22
  t212 := Tryd.underlying163
  a212 := Tryd.isAgg163
  z212 := Tryd.sizeOf163
  v212 := Tryd.zeroValue163
  g17 := by kernel_rfl
  i0 := by kernel_rfl
  i3 := by kernel_rfl
  i4 := by kernel_rfl
  i5 := by kernel_rfl
  i9 := by kernel_rfl
  i46 := by kernel_rfl
  i53 := by kernel_rfl
  i212 := by kernel_rfl
  m17 := by kernel_rfl }
open Go.Lib in
theorem Tryd.internal_strconv_numDigits (u : Nat) (h1 : 1 ≤ u) (h2 : u < 18446744073709551616) (w : World) (htab : Lib.TabIs Tryd.prog w "internal/strconv.uint64pow10" .u64 Lib.pow10Tab) :
    Calls Tryd.prog 96 #[.int .u64 u] w fun e w' => e = .returned (.int .i64 (Lib.nDigits u)) ∧ w' = w := Any.internal_strconv_numDigits Tryd.laysM284 u h1 h2 w htab
def Tryd.lays285_ren : Go.Shelf.Ren := ⟨fun | 285 => 97 | n => n, fun | 37 => 129 | 53 => 22 | 3 => 3 | 4 => 4 | 51 => 32 | 9 => 9 | 5 => 5 | 0 => 0 | n => n, fun | n => n⟩
theorem Tryd.lays285 : Go.Proofs.Lays.n285 Tryd.prog Tryd.lays285_ren := {
  mixed := by kernel_rfl
  f285 := Tryd.func97.trans (congrArg some (by kernel_rfl))
  t0 := Tryd.underlying0
  a0 := Tryd.isAgg0
  z0 := Tryd.sizeOf0
  v0 := Tryd.zeroValue0
  t3 := Tryd.underlying3
  a3 := Tryd.isAgg3
  z3 := Tryd.sizeOf3
  v3 := Tryd.zeroValue3
  t4 := Tryd.underlying4
  a4 := Tryd.isAgg4
  z4 := Tryd.sizeOf4
  v4 := Tryd.zeroValue4
  t5 := Tryd.underlying5
  a5 := Tryd.isAgg5
  z5 := Tryd.sizeOf5
  v5 := Tryd.zeroValue5
  t9 := Tryd.underlying9
  a9 := Tryd.isAgg9
  z9 := Tryd.sizeOf9
  v9 := Tryd.zeroValue9
  t37 := Tryd.underlying129
  a37 := Tryd.isAgg129
  z37 := Tryd.sizeOf129
  v37 := Tryd.zeroValue129
  t51 := Tryd.underlying32
  a51 := Tryd.isAgg32
  z51 := Tryd.sizeOf32
  v51 := Tryd.zeroValue32
  t53 := Tryd.underlying22
  a53 := Tryd.isAgg22
  z53 := Tryd.sizeOf22
  v53 := Tryd.zeroValue22 }
open Go.RowKit Go.Sort Go.Lib in
theorem Tryd.internal_strconv_formatBase10 (blk off cap : Nat) (u : Nat) (d : Array UInt8) (w : World) (hH : Holds (fun (b : UInt8) => Value.int .u8 (b.toNat : Int)) w blk off d) (hu : u < 10 ^ d.size) (hu64 : u < 18446744073709551616) (hsz : d.size < 4611686018427387904) :
    Calls Tryd.prog 97 #[.slice (some ⟨blk, off, none⟩) d.size cap, .int .u64 u] w fun e w' =>
      e = .returned (.tuple #[]) ∧ ∃ (n v' : Nat) (dk : Array UInt8), w' = (putRow (fun (b : UInt8) => Value.int .u8 (b.toNat : Int)) w blk off dk).drewN n ∧ FmtInv d.size u 0 v' dk := Any.internal_strconv_formatBase10 Tryd.lays285 blk off cap u d w hH hu hu64 hsz
def Tryd.laysM171_ren : Go.Shelf.Ren := ⟨fun | 171 => 60 | 243 => 86 | 246 => 103 | 283 => 95 | 284 => 96 | 285 => 97 | 286 => 98 | 129 => 112 | 317 => 111 | 318 => 113 | 319 => 114 | 320 => 115 | 337 => 126 | 338 => 127 | n => n, fun | 3 => 3 | 9 => 9 | 2 => 2 | 4 => 4 | 171 => 149 | 0 => 0 | 53 => 22 | 37 => 129 | 5 => 5 | 173 => 152 | 212 => 163 | 51 => 32 | 20 => 20 | 213 => 164 | 46 => 140 | 232 => 183 | 233 => 184 | n => n, fun | 17 => 0 | 18 => 4 | 19 => 5 | n => n⟩
theorem Tryd.laysM171 : Go.Proofs.LaysM.n171 Tryd.prog Tryd.laysM171_ren := {
  mixed := by kernel_rfl
  f129 := Tryd.func112.trans (congrArg some (by kernel_rfl))
  f171 := Tryd.func60.trans (congrArg some (by kernel_rfl))
  f243 := Tryd.func86.trans (congrArg some (by kernel_rfl))
  f246 := Tryd.func103.trans (congrArg some (by kernel_rfl))
  f283 := Tryd.func95.trans (congrArg some (by kernel_rfl))
  f284 := Tryd.func96.trans (congrArg some (by kernel_rfl))
  f285 := Tryd.func97.trans (congrArg some (by kernel_rfl))
  f286 := Tryd.func98.trans (congrArg some (by kernel_rfl))
  f317 := Tryd.func111.trans (congrArg some (by kernel_rfl))
  f318 := Tryd.func113.trans (congrArg some (by kernel_rfl))
  f319 := Tryd.func114.trans (congrArg some (by kernel_rfl))
  f320 := Tryd.func115.trans (congrArg some (by kernel_rfl))
  f337 := Tryd.func126.trans (congrArg some (by kernel_rfl))
  f338 := Tryd.func127.trans (congrArg some (by kernel_rfl))
  t0 := Tryd.underlying0
  a0 := Tryd.isAgg0
  z0 := Tryd.sizeOf0
  v0 := Tryd.zeroValue0
  t2 := Tryd.underlying2
  a2 := Tryd.isAgg2
  z2 := Tryd.sizeOf2
  v2 := Tryd.zeroValue2
  t3 := Tryd.underlying3
  a3 := Tryd.isAgg3
  z3 := Tryd.sizeOf3
  v3 := Tryd.zeroValue3
  t4 := Tryd.underlying4
  a4 := Tryd.isAgg4
  z4 := Tryd.sizeOf4
  v4 := Tryd.zeroValue4
  t5 := Tryd.underlying5
  a5 := Tryd.isAgg5
  z5 := Tryd.sizeOf5
  v5 := Tryd.zeroValue5
  t9 := Tryd.underlying9
  a9 := Tryd.isAgg9
  z9 := Tryd.sizeOf9
  v9 := Tryd.zeroValue9
  t20 := Tryd.underlying20
  a20 := Tryd.isAgg20
  z20 := Tryd.sizeOf20
  v20 := Tryd.zeroValue20
  t37 := Tryd.underlying129
  a37 := Tryd.isAgg129
  z37 := Tryd.sizeOf129
  v37 := Tryd.zeroValue129
  t46 := Tryd.underlying140
  a46 := Tryd.isAgg140
  z46 := Tryd.sizeOf140
  v46 := Tryd.zeroValue140
  t51 := Tryd.underlying32
  a51 := Tryd.isAgg32
  z51 := Tryd.sizeOf32
  v51 := Tryd.zeroValue32
  t53 := Tryd.underlying22
  a53 := Tryd.isAgg22
  z53 := Tryd.sizeOf22
  v53 := Tryd.zeroValue22
  t171 := Tryd.underlying149
  a171 := Tryd.isAgg149
  z171 := Tryd.sizeOf149
  v171 := Tryd.zeroValue149
  t173 := Tryd.underlying152
  a173 := Tryd.isAgg152
  z173 := Tryd.sizeOf152
  v173 := Tryd.zeroValue152
  t212 := Tryd.underlying163
  a212 := Tryd.isAgg163
  z212 := Tryd.sizeOf163
  v212 := Tryd.zeroValue163
  t213 := Tryd.underlying164
  a213 := Tryd.isAgg164
  z213 := Tryd.sizeOf164
  t232 := Tryd.underlying183
  a232 := Tryd.isAgg183
  z232 := Tryd.sizeOf183
  v232 := Tryd.zeroValue183
  t233 := Tryd.underlying184
  a233 := Tryd.isAgg184
  z233 := Tryd.sizeOf184
  v233 := Tryd.zeroValue184
  g17 := by kernel_rfl
  g18 := by kernel_rfl
  g19 := by kernel_rfl
  i0 := by kernel_rfl
  i2 := by kernel_rfl
  i3 := by kernel_rfl
  i4 := by kernel_rfl
  i5 := by kernel_rfl
  i9 := by kernel_rfl
  i20 := by kernel_rfl
  i37 := by kernel_rfl
  i46 := by kernel_rfl
  i51 := by kernel_rfl
  i53 := by kernel_rfl
  i171 := by kernel_rfl
  i173 := by kernel_rfl
  i212 := by kernel_rfl
  i232 := by kernel_rfl
  i233 := by kernel_rfl
  m17 := by kernel_rfl
  m18 := by kernel_rfl
  m19 := by kernel_rfl }
open Go.RowKit Go.Sort Go.Lib in
theorem Tryd.strconv_Itoa (n : Int) (h0 : -9223372036854775808 ≤ n) (h1 : n ≤ 9223372036854775807) (w : World) (htab : Lib.TabIs Tryd.prog w "internal/strconv.uint64pow10" .u64 Lib.pow10Tab) :
    Calls Tryd.prog 60 #[.int .i64 n] w fun e w' => e = .returned (.string ⟨(Lib.itoa n).toArray⟩) ∧ ∃ k os, w' = grow (w.drewN k) os := Any.strconv_Itoa Tryd.laysM171 n h0 h1 w htab
def Tryd.lays171_ren : Go.Shelf.Ren := ⟨fun | 171 => 60 | 243 => 86 | 246 => 103 | 283 => 95 | 284 => 96 | 285 => 97 | 286 => 98 | 129 => 112 | 317 => 111 | 318 => 113 | 319 => 114 | 320 => 115 | 337 => 126 | 338 => 127 | n => n, fun | 3 => 3 | 9 => 9 | 2 => 2 | 4 => 4 | 171 => 149 | 0 => 0 | 53 => 22 | 37 => 129 | 5 => 5 | 173 => 152 | 212 => 163 | 51 => 32 | 20 => 20 | 213 => 164 | 46 => 140 | 232 => 183 | 233 => 184 | n => n, fun | 17 => 0 | 18 => 4 | 19 => 5 | n => n⟩
theorem Tryd.lays171 : Go.Proofs.Lays.n171 Tryd.prog Tryd.lays171_ren := {
  mixed := by kernel_rfl
  f129 := Tryd.func112.trans (congrArg some (by kernel_rfl))
  f171 := Tryd.func60.trans (congrArg some (by kernel_rfl))
  f243 := Tryd.func86.trans (congrArg some (by kernel_rfl))
  f246 := Tryd.func103.trans (congrArg some (by kernel_rfl))
  f283 := Tryd.func95.trans (congrArg some (by kernel_rfl))
  f284 := Tryd.func96.trans (congrArg some (by kernel_rfl))
  f285 := Tryd.func97.trans (congrArg some (by kernel_rfl))
  f286 := Tryd.func98.trans (congrArg some (by kernel_rfl))
  f317 := Tryd.func111.trans (congrArg some (by kernel_rfl))
  f318 := Tryd.func113.trans (congrArg some (by kernel_rfl))
  f319 := Tryd.func114.trans (congrArg some (by kernel_rfl))
  f320 := Tryd.func115.trans (congrArg some (by kernel_rfl))
  f337 := Tryd.func126.trans (congrArg some (by kernel_rfl))
  f338 := Tryd.func127.trans (congrArg some (by kernel_rfl))
  t0 := Tryd.underlying0
  a0 := Tryd.isAgg0
  z0 := Tryd.sizeOf0
  v0 := Tryd.zeroValue0
  t2 := Tryd.underlying2
  a2 := Tryd.isAgg2
  z2 := Tryd.sizeOf2
  v2 := Tryd.zeroValue2
  t3 := Tryd.underlying3
  a3 := Tryd.isAgg3
  z3 := Tryd.sizeOf3
  v3 := Tryd.zeroValue3
  t4 := Tryd.underlying4
  a4 := Tryd.isAgg4
  z4 := Tryd.sizeOf4
  v4 := Tryd.zeroValue4
  t5 := Tryd.underlying5
  a5 := Tryd.isAgg5
  z5 := Tryd.sizeOf5
  v5 := Tryd.zeroValue5
  t9 := Tryd.underlying9
  a9 := Tryd.isAgg9
  z9 := Tryd.sizeOf9
  v9 := Tryd.zeroValue9
  t20 := Tryd.underlying20
  a20 := Tryd.isAgg20
  z20 := Tryd.sizeOf20
  v20 := Tryd.zeroValue20
  t37 := Tryd.underlying129
  a37 := Tryd.isAgg129
  z37 := Tryd.sizeOf129
  v37 := Tryd.zeroValue129
  t46 := Tryd.underlying140
  a46 := Tryd.isAgg140
  z46 := Tryd.sizeOf140
  v46 := Tryd.zeroValue140
  t51 := Tryd.underlying32
  a51 := Tryd.isAgg32
  z51 := Tryd.sizeOf32
  v51 := Tryd.zeroValue32
  t53 := Tryd.underlying22
  a53 := Tryd.isAgg22
  z53 := Tryd.sizeOf22
  v53 := Tryd.zeroValue22
  t171 := Tryd.underlying149
  a171 := Tryd.isAgg149
  z171 := Tryd.sizeOf149
  v171 := Tryd.zeroValue149
  t173 := Tryd.underlying152
  a173 := Tryd.isAgg152
  z173 := Tryd.sizeOf152
  v173 := Tryd.zeroValue152
  t212 := Tryd.underlying163
  a212 := Tryd.isAgg163
  z212 := Tryd.sizeOf163
  v212 := Tryd.zeroValue163
  t213 := Tryd.underlying164
  a213 := Tryd.isAgg164
  z213 := Tryd.sizeOf164
  t232 := Tryd.underlying183
  a232 := Tryd.isAgg183
  z232 := Tryd.sizeOf183
  v232 := Tryd.zeroValue183
  t233 := Tryd.underlying184
  a233 := Tryd.isAgg184
  z233 := Tryd.sizeOf184
  v233 := Tryd.zeroValue184
  g17 := by kernel_rfl
  g18 := by kernel_rfl
  g19 := by kernel_rfl }
open Go.RowKit Go.Sort Go.Lib in
theorem Tryd.strconv_Itoa_small (i : Nat) (hi : i < 100) (w : World) :
    Calls Tryd.prog 60 #[.int .i64 i] w fun e w' => e = .returned (.string ⟨(Lib.decDigits i).toArray⟩) ∧ w' = w := Any.strconv_Itoa_small Tryd.lays171 i hi w
def Tryd.laysC245_ren : Go.Shelf.Ren := ⟨fun | 245 => 89 | 279 => 106 | 280 => 107 | 281 => 108 | 282 => 109 | 316 => 124 | 171 => 60 | 205 => 125 | 243 => 86 | 246 => 103 | 283 => 95 | 284 => 96 | 285 => 97 | 286 => 98 | 129 => 112 | 317 => 111 | 318 => 113 | 319 => 114 | 320 => 115 | 337 => 126 | 338 => 127 | n => n, fun | 9 => 9 | 3 => 3 | 75 => 105 | 167 => 157 | 4 => 4 | 168 => 159 | 210 => 175 | 37 => 129 | 0 => 0 | 127 => 154 | 145 => 182 | 143 => 180 | 2 => 2 | 171 => 149 | 53 => 22 | 5 => 5 | 173 => 152 | 212 => 163 | 51 => 32 | 20 => 20 | 213 => 164 | 46 => 140 | 232 => 183 | 233 => 184 | 80 => 135 | n => n, fun | 15 => 2 | 16 => 3 | 17 => 0 | 18 => 4 | 19 => 5 | n => n⟩
theorem Tryd.laysC245 : Go.Proofs.LaysC.n245 Tryd.prog Tryd.laysC245_ren := {
  mixed := by kernel_rfl
  f129 := Tryd.func112.trans (congrArg some (by kernel_rfl))
  f171 := Tryd.func60.trans (congrArg some (by kernel_rfl))
  f205 := Tryd.func125.trans (congrArg some (by kernel_rfl))
  f243 := Tryd.func86.trans (congrArg some (by kernel_rfl))
  f245 := Tryd.func89.trans (congrArg some (by kernel_rfl))
  f246 := Tryd.func103.trans (congrArg some (by kernel_rfl))
  f279 := Tryd.func106.trans (congrArg some (by kernel_rfl))
  f280 := Tryd.func107.trans (congrArg some (by kernel_rfl))
  f281 := Tryd.func108.trans (congrArg some (by kernel_rfl))
  f282 := Tryd.func109.trans (congrArg some (by kernel_rfl))
  f283 := Tryd.func95.trans (congrArg some (by kernel_rfl))
  f284 := Tryd.func96.trans (congrArg some (by kernel_rfl))
  f285 := Tryd.func97.trans (congrArg some (by kernel_rfl))
  f286 := Tryd.func98.trans (congrArg some (by kernel_rfl))
  f316 := Tryd.func124.trans (congrArg some (by kernel_rfl))
  f317 := Tryd.func111.trans (congrArg some (by kernel_rfl))
  f318 := Tryd.func113.trans (congrArg some (by kernel_rfl))
  f319 := Tryd.func114.trans (congrArg some (by kernel_rfl))
  f320 := Tryd.func115.trans (congrArg some (by kernel_rfl))
  f337 := Tryd.func126.trans (congrArg some (by kernel_rfl))
  f338 := Tryd.func127.trans (congrArg some (by kernel_rfl))
  t0 := Tryd.underlying0
  a0 := Tryd.isAgg0
  z0 := Tryd.sizeOf0
  v0 := Tryd.zeroValue0
  t2 := Tryd.underlying2
  a2 := Tryd.isAgg2
  z2 := Tryd.sizeOf2
  v2 := Tryd.zeroValue2
  t3 := Tryd.underlying3
  a3 := Tryd.isAgg3
  z3 := Tryd.sizeOf3
  v3 := Tryd.zeroValue3
  t4 := Tryd.underlying4
  a4 := Tryd.isAgg4
  z4 := Tryd.sizeOf4
  v4 := Tryd.zeroValue4
  t5 := Tryd.underlying5
  a5 := Tryd.isAgg5
  z5 := Tryd.sizeOf5
  v5 := Tryd.zeroValue5
  t9 := Tryd.underlying9
  a9 := Tryd.isAgg9
  z9 := Tryd.sizeOf9
  v9 := Tryd.zeroValue9
  t20 := Tryd.underlying20
  a20 := Tryd.isAgg20
  z20 := Tryd.sizeOf20
  v20 := Tryd.zeroValue20
  t37 := Tryd.underlying129
  a37 := Tryd.isAgg129
  z37 := Tryd.sizeOf129
  v37 := Tryd.zeroValue129
  t46 := Tryd.underlying140
  a46 := Tryd.isAgg140
  z46 := Tryd.sizeOf140
  v46 := Tryd.zeroValue140
  t51 := Tryd.underlying32
  a51 := Tryd.isAgg32
  z51 := Tryd.sizeOf32
  v51 := Tryd.zeroValue32
  t53 := Tryd.underlying22
  a53 := Tryd.isAgg22
  z53 := Tryd.sizeOf22
  v53 := Tryd.zeroValue22
  t75 := Tryd.underlying105
  a75 := Tryd.isAgg105
  z75 := Tryd.sizeOf105
  v75 := Tryd.zeroValue105
  t127 := Tryd.underlying154
  a127 := Tryd.isAgg154
  z127 := Tryd.sizeOf154
  v127 := Tryd.zeroValue154
  t143 := Tryd.underlying180
  a143 := Tryd.isAgg180
  z143 := Tryd.sizeOf180
  v143 := Tryd.zeroValue180
  t145 := Tryd.underlying182
  a145 := Tryd.isAgg182
  z145 := Tryd.sizeOf182
  v145 := Tryd.zeroValue182
  t167 := Tryd.underlying157
  a167 := Tryd.isAgg157
  z167 := Tryd.sizeOf157
  v167 := Tryd.zeroValue157
  t168 := Tryd.underlying159
  a168 := Tryd.isAgg159
  z168 := Tryd.sizeOf159
  v168 := Tryd.zeroValue159
  t171 := Tryd.underlying149
  a171 := Tryd.isAgg149
  z171 := Tryd.sizeOf149
  v171 := Tryd.zeroValue149
  t173 := Tryd.underlying152
  a173 := Tryd.isAgg152
  z173 := Tryd.sizeOf152
  v173 := Tryd.zeroValue152
  t210 := Tryd.underlying175
  a210 := Tryd.isAgg175
  z210 := Tryd.sizeOf175
  v210 := Tryd.zeroValue175
  t212 := Tryd.underlying163
  a212 := Tryd.isAgg163
  z212 := Tryd.sizeOf163
  v212 := Tryd.zeroValue163
  t213 := Tryd.underlying164
  a213 := Tryd.isAgg164
  z213 := Tryd.sizeOf164
  t232 := Tryd.underlying183
  a232 := Tryd.isAgg183
  z232 := Tryd.sizeOf183
  v232 := Tryd.zeroValue183
  t233 := Tryd.underlying184
  a233 := Tryd.isAgg184
  z233 := Tryd.sizeOf184
  v233 := Tryd.zeroValue184
  g15 := by kernel_rfl
  g16 := by kernel_rfl
  g17 := by kernel_rfl
  g18 := by kernel_rfl
  g19 := by kernel_rfl
  t80 := Tryd.underlying135
  a80 := Tryd.isAgg135
  z80 := Tryd.sizeOf135
  v80 := Tryd.zeroValue135
  i0 := by kernel_rfl
  i2 := by kernel_rfl
  i3 := by kernel_rfl
  i4 := by kernel_rfl
  i5 := by kernel_rfl
  i9 := by kernel_rfl
  i20 := by kernel_rfl
  i37 := by kernel_rfl
  i46 := by kernel_rfl
  i51 := by kernel_rfl
  i53 := by kernel_rfl
  i75 := by kernel_rfl
  i80 := by kernel_rfl
  i127 := by kernel_rfl
  i143 := by kernel_rfl
  i145 := by kernel_rfl
  i167 := by kernel_rfl
  i168 := by kernel_rfl
  i171 := by kernel_rfl
  i173 := by kernel_rfl
  i210 := by kernel_rfl
  i212 := by kernel_rfl
  i232 := by kernel_rfl
  i233 := by kernel_rfl
  m15 := by kernel_rfl
  m16 := by kernel_rfl
  m17 := by kernel_rfl
  m18 := by kernel_rfl
  m19 := by kernel_rfl
  c0 := by kernel_rfl
  c2 := by kernel_rfl
  c3 := by kernel_rfl
  c4 := by kernel_rfl
  c5 := by kernel_rfl
  c9 := by kernel_rfl
  c20 := by kernel_rfl
  c37 := by kernel_rfl
  c46 := by kernel_rfl
  c51 := by kernel_rfl
  c53 := by kernel_rfl
  c75 := by kernel_rfl
  c80 := by kernel_rfl
  c127 := by kernel_rfl
  c143 := by kernel_rfl
  c145 := by kernel_rfl
  c167 := by kernel_rfl
  c168 := by kernel_rfl
  c171 := by kernel_rfl
  c173 := by kernel_rfl
  c210 := by kernel_rfl
  c212 := by kernel_rfl
  c213 := by kernel_rfl
  c232 := by kernel_rfl
  c233 := by kernel_rfl }
open Go.RowKit in
theorem Tryd.strconv_toError_syntax (fn s : ByteArray) (base bits : Int) (ev : Value) (w : World) (hlim : s.size ≤ 281474976710656) (hv : w.cell? ⟨2, 0, none⟩ = some ev) (hev : ev = .nilIface ∨ ∃ te pe, ev = .iface te pe) :
    Calls Tryd.prog 89 #[.string fn, .string s, .int .i64 base, .int .i64 bits, .iface 157 (.int .i64 2)] w fun e w' => ∃ N, e = .returned (.iface 159 (.pointer (some ⟨N, 0, none⟩))) ∧ w.heap.size ≤ N ∧ w'.heap[N]? = some (.cells #[.string fn, .string s, ev] 175 (0, 0)) ∧ Below w.heap.size w w' := Any.strconv_toError_syntax Tryd.laysC245 fn s base bits ev w hlim hv hev
def Tryd.lays287_ren : Go.Shelf.Ren := ⟨fun | 287 => 88 | 321 => 104 | 322 => 105 | n => n, fun | 9 => 9 | 3 => 3 | 53 => 22 | 75 => 105 | 4 => 4 | 167 => 157 | 5 => 5 | 46 => 140 | 37 => 129 | 0 => 0 | 21 => 21 | 80 => 135 | n => n, fun | n => n⟩
theorem Tryd.lays287 : Go.Proofs.Lays.n287 Tryd.prog Tryd.lays287_ren := {
  mixed := by kernel_rfl
  f287 := Tryd.func88.trans (congrArg some (by kernel_rfl))
  f321 := Tryd.func104.trans (congrArg some (by kernel_rfl))
  f322 := Tryd.func105.trans (congrArg some (by kernel_rfl))
  t0 := Tryd.underlying0
  a0 := Tryd.isAgg0
  z0 := Tryd.sizeOf0
  v0 := Tryd.zeroValue0
  t3 := Tryd.underlying3
  a3 := Tryd.isAgg3
  z3 := Tryd.sizeOf3
  v3 := Tryd.zeroValue3
  t4 := Tryd.underlying4
  a4 := Tryd.isAgg4
  z4 := Tryd.sizeOf4
  v4 := Tryd.zeroValue4
  t5 := Tryd.underlying5
  a5 := Tryd.isAgg5
  z5 := Tryd.sizeOf5
  v5 := Tryd.zeroValue5
  t9 := Tryd.underlying9
  a9 := Tryd.isAgg9
  z9 := Tryd.sizeOf9
  v9 := Tryd.zeroValue9
  t21 := Tryd.underlying21
  a21 := Tryd.isAgg21
  z21 := Tryd.sizeOf21
  v21 := Tryd.zeroValue21
  t37 := Tryd.underlying129
  a37 := Tryd.isAgg129
  z37 := Tryd.sizeOf129
  v37 := Tryd.zeroValue129
  t46 := Tryd.underlying140
  a46 := Tryd.isAgg140
  z46 := Tryd.sizeOf140
  v46 := Tryd.zeroValue140
  t53 := Tryd.underlying22
  a53 := Tryd.isAgg22
  z53 := Tryd.sizeOf22
  v53 := Tryd.zeroValue22
  t75 := Tryd.underlying105
  a75 := Tryd.isAgg105
  z75 := Tryd.sizeOf105
  v75 := Tryd.zeroValue105
  t167 := Tryd.underlying157
  a167 := Tryd.isAgg157
  z167 := Tryd.sizeOf157
  v167 := Tryd.zeroValue157 }
open Go.RowKit in
theorem Tryd.strconv_toError_range (fn s : ByteArray) (base bits : Int) (ev : Value) (w : World) (hlim : s.size ≤ 281474976710656) (hv : w.cell? ⟨3, 0, none⟩ = some ev) (hev : ev = .nilIface ∨ ∃ te pe, ev = .iface te pe) :
    Calls Tryd.prog 89 #[.string fn, .string s, .int .i64 base, .int .i64 bits, .iface 157 (.int .i64 1)] w fun e w' => ∃ N, e = .returned (.iface 159 (.pointer (some ⟨N, 0, none⟩))) ∧ w.heap.size ≤ N ∧ w'.heap[N]? = some (.cells #[.string fn, .string s, ev] 175 (0, 0)) ∧ Below w.heap.size w w' := Any.strconv_toError_range Tryd.laysC245 fn s base bits ev w hlim hv hev
open Go.RowKit in
theorem Tryd.internal_strconv_ParseUint_10_at32 (t : ByteArray) (hmax : t.size ≤ 9223372036854775806) (w : World) :
    Calls Tryd.prog 88 #[.string t, .int .i64 10, .int .i64 32] w fun e w' => e = .returned (Lib.uintTupleM 157 4294967295 (Lib.parseUintB 32 t.data.toList)) ∧ (w' = w ∨ w' = Lib.bytesWorld w 5 t) := Any.internal_strconv_ParseUint_10_at32 Tryd.lays287 t hmax w
open Go.RowKit in
theorem Tryd.internal_strconv_ParseUint_10_at8 (t : ByteArray) (hmax : t.size ≤ 9223372036854775806) (w : World) :
    Calls Tryd.prog 88 #[.string t, .int .i64 10, .int .i64 8] w fun e w' => e = .returned (Lib.uintTupleM 157 255 (Lib.parseUintB 8 t.data.toList)) ∧ (w' = w ∨ w' = Lib.bytesWorld w 5 t) := Any.internal_strconv_ParseUint_10_at8 Tryd.lays287 t hmax w
def Tryd.laysPu14_ren : Go.Shelf.Ren := ⟨fun | 14 => 62 | 16 => 88 | 17 => 89 | 19 => 104 | 20 => 105 | 21 => 106 | 22 => 107 | 23 => 108 | 24 => 109 | 25 => 124 | 27 => 60 | 26 => 125 | 28 => 86 | 29 => 103 | 30 => 95 | 31 => 96 | 32 => 97 | 33 => 98 | 35 => 112 | 34 => 111 | 36 => 113 | 37 => 114 | 38 => 115 | 39 => 126 | 40 => 127 | n => n, fun | 9 => 9 | 3 => 3 | 22 => 22 | 24 => 105 | 25 => 106 | 4 => 4 | 34 => 157 | 5 => 5 | 36 => 140 | 37 => 129 | 0 => 0 | 39 => 159 | 21 => 21 | 44 => 175 | 47 => 154 | 50 => 182 | 48 => 180 | 2 => 2 | 52 => 149 | 55 => 152 | 59 => 163 | 60 => 32 | 20 => 20 | 61 => 164 | 65 => 183 | 66 => 184 | 67 => 135 | n => n, fun | 0 => 2 | 1 => 3 | 2 => 0 | 3 => 4 | 4 => 5 | n => n⟩
theorem Tryd.laysPu14 : Go.Proofs.LaysPu.n14 Tryd.prog Tryd.laysPu14_ren := {
  mixed := by kernel_rfl
  f14 := Tryd.func62.trans (congrArg some (by kernel_rfl))
  f16 := Tryd.func88.trans (congrArg some (by kernel_rfl))
  f17 := Tryd.func89.trans (congrArg some (by kernel_rfl))
  f19 := Tryd.func104.trans (congrArg some (by kernel_rfl))
  f20 := Tryd.func105.trans (congrArg some (by kernel_rfl))
  f21 := Tryd.func106.trans (congrArg some (by kernel_rfl))
  f22 := Tryd.func107.trans (congrArg some (by kernel_rfl))
  f23 := Tryd.func108.trans (congrArg some (by kernel_rfl))
  f24 := Tryd.func109.trans (congrArg some (by kernel_rfl))
  f25 := Tryd.func124.trans (congrArg some (by kernel_rfl))
  f26 := Tryd.func125.trans (congrArg some (by kernel_rfl))
  f27 := Tryd.func60.trans (congrArg some (by kernel_rfl))
  f28 := Tryd.func86.trans (congrArg some (by kernel_rfl))
  f29 := Tryd.func103.trans (congrArg some (by kernel_rfl))
  f30 := Tryd.func95.trans (congrArg some (by kernel_rfl))
  f31 := Tryd.func96.trans (congrArg some (by kernel_rfl))
  f32 := Tryd.func97.trans (congrArg some (by kernel_rfl))
  f33 := Tryd.func98.trans (congrArg some (by kernel_rfl))
  f34 := Tryd.func111.trans (congrArg some (by kernel_rfl))
  f35 := Tryd.func112.trans (congrArg some (by kernel_rfl))
  f36 := Tryd.func113.trans (congrArg some (by kernel_rfl))
  f37 := Tryd.func114.trans (congrArg some (by kernel_rfl))
  f38 := Tryd.func115.trans (congrArg some (by kernel_rfl))
  f39 := Tryd.func126.trans (congrArg some (by kernel_rfl))
  f40 := Tryd.func127.trans (congrArg some (by kernel_rfl))
  t0 := Tryd.underlying0
  a0 := Tryd.isAgg0
  z0 := Tryd.sizeOf0
  v0 := Tryd.zeroValue0
  i0 := by kernel_rfl
  t2 := Tryd.underlying2
  a2 := Tryd.isAgg2
  z2 := Tryd.sizeOf2
  v2 := Tryd.zeroValue2
  i2 := by kernel_rfl
  t3 := Tryd.underlying3
  a3 := Tryd.isAgg3
  z3 := Tryd.sizeOf3
  v3 := Tryd.zeroValue3
  i3 := by kernel_rfl
  t4 := Tryd.underlying4
  a4 := Tryd.isAgg4
  z4 := Tryd.sizeOf4
  v4 := Tryd.zeroValue4
  i4 := by kernel_rfl
  t5 := Tryd.underlying5
  a5 := Tryd.isAgg5
  z5 := Tryd.sizeOf5
  v5 := Tryd.zeroValue5
  i5 := by kernel_rfl
  t9 := Tryd.underlying9
  a9 := Tryd.isAgg9
  z9 := Tryd.sizeOf9
  v9 := Tryd.zeroValue9
  i9 := by kernel_rfl
  t20 := Tryd.underlying20
  a20 := Tryd.isAgg20
  z20 := Tryd.sizeOf20
  v20 := Tryd.zeroValue20
  i20 := by kernel_rfl
  t21 := Tryd.underlying21
  a21 := Tryd.isAgg21
  z21 := Tryd.sizeOf21
  v21 := Tryd.zeroValue21
  i21 := by kernel_rfl
  t22 := Tryd.underlying22
  a22 := Tryd.isAgg22
  z22 := Tryd.sizeOf22
  v22 := Tryd.zeroValue22
  i22 := by kernel_rfl
  t24 := Tryd.underlying105
  a24 := Tryd.isAgg105
  z24 := Tryd.sizeOf105
  v24 := Tryd.zeroValue105
  i24 := by kernel_rfl
  t25 := Tryd.underlying106
  a25 := Tryd.isAgg106
  z25 := Tryd.sizeOf106
  v25 := Tryd.zeroValue106
  i25 := by kernel_rfl
  t34 := Tryd.underlying157
  a34 := Tryd.isAgg157
  z34 := Tryd.sizeOf157
  v34 := Tryd.zeroValue157
  i34 := by kernel_rfl
  c34 := by kernel_rfl
  t36 := Tryd.underlying140
  a36 := Tryd.isAgg140
  z36 := Tryd.sizeOf140
  v36 := Tryd.zeroValue140
  i36 := by kernel_rfl
  t37 := Tryd.underlying129
  a37 := Tryd.isAgg129
  z37 := Tryd.sizeOf129
  v37 := Tryd.zeroValue129
  i37 := by kernel_rfl
  t39 := Tryd.underlying159
  a39 := Tryd.isAgg159
  z39 := Tryd.sizeOf159
  v39 := Tryd.zeroValue159
  i39 := by kernel_rfl
  t44 := Tryd.underlying175
  a44 := Tryd.isAgg175
  z44 := Tryd.sizeOf175
  v44 := Tryd.zeroValue175
  i44 := by kernel_rfl
  t47 := Tryd.underlying154
  a47 := Tryd.isAgg154
  z47 := Tryd.sizeOf154
  v47 := Tryd.zeroValue154
  i47 := by kernel_rfl
  t48 := Tryd.underlying180
  a48 := Tryd.isAgg180
  z48 := Tryd.sizeOf180
  v48 := Tryd.zeroValue180
  i48 := by kernel_rfl
  t50 := Tryd.underlying182
  a50 := Tryd.isAgg182
  z50 := Tryd.sizeOf182
  v50 := Tryd.zeroValue182
  i50 := by kernel_rfl
  t52 := Tryd.underlying149
  a52 := Tryd.isAgg149
  z52 := Tryd.sizeOf149
  v52 := Tryd.zeroValue149
  i52 := by kernel_rfl
  t55 := Tryd.underlying152
  a55 := Tryd.isAgg152
  z55 := Tryd.sizeOf152
  v55 := Tryd.zeroValue152
  i55 := by kernel_rfl
  t59 := Tryd.underlying163
  a59 := Tryd.isAgg163
  z59 := Tryd.sizeOf163
  v59 := Tryd.zeroValue163
  i59 := by kernel_rfl
  t60 := Tryd.underlying32
  a60 := Tryd.isAgg32
  z60 := Tryd.sizeOf32
  v60 := Tryd.zeroValue32
  i60 := by kernel_rfl
  t61 := Tryd.underlying164
  a61 := Tryd.isAgg164
  z61 := Tryd.sizeOf164
  t65 := Tryd.underlying183
  a65 := Tryd.isAgg183
  z65 := Tryd.sizeOf183
  v65 := Tryd.zeroValue183
  i65 := by kernel_rfl
  t66 := Tryd.underlying184
  a66 := Tryd.isAgg184
  z66 := Tryd.sizeOf184
  v66 := Tryd.zeroValue184
  i66 := by kernel_rfl
  t67 := Tryd.underlying135
  a67 := Tryd.isAgg135
  z67 := Tryd.sizeOf135
  v67 := Tryd.zeroValue135
  i67 := by kernel_rfl
  g0 := by kernel_rfl
  m0 := by kernel_rfl
  g1 := by kernel_rfl
  m1 := by kernel_rfl
  g2 := by kernel_rfl
  m2 := by kernel_rfl
  g3 := by kernel_rfl
  m3 := by kernel_rfl
  g4 := by kernel_rfl
  m4 := by kernel_rfl }
def Tryd.lays143_ren : Go.Shelf.Ren := ⟨fun | 143 => 83 | 219 => 102 | 217 => 120 | 225 => 121 | 224 => 122 | 267 => 123 | 266 => 129 | 314 => 130 | n => n, fun | 9 => 9 | 3 => 3 | 4 => 4 | 5 => 5 | 46 => 140 | 146 => 178 | 51 => 32 | n => n, fun | 1 => 1 | n => n⟩
theorem Tryd.lays143 : Go.Proofs.Lays.n143 Tryd.prog Tryd.lays143_ren := {
  mixed := by kernel_rfl
  f143 := Tryd.func83.trans (congrArg some (by kernel_rfl))
  f217 := Tryd.func120.trans (congrArg some (by kernel_rfl))
  f219 := Tryd.func102.trans (congrArg some (by kernel_rfl))
  f224 := Tryd.func122.trans (congrArg some (by kernel_rfl))
  f225 := Tryd.func121.trans (congrArg some (by kernel_rfl))
  f266 := Tryd.func129.trans (congrArg some (by kernel_rfl))
  f267 := Tryd.func123.trans (congrArg some (by kernel_rfl))
  f314 := Tryd.func130.trans (congrArg some (by kernel_rfl))
  t3 := Tryd.underlying3
  a3 := Tryd.isAgg3
  z3 := Tryd.sizeOf3
  v3 := Tryd.zeroValue3
  t4 := Tryd.underlying4
  a4 := Tryd.isAgg4
  z4 := Tryd.sizeOf4
  v4 := Tryd.zeroValue4
  t5 := Tryd.underlying5
  a5 := Tryd.isAgg5
  z5 := Tryd.sizeOf5
  v5 := Tryd.zeroValue5
  t9 := Tryd.underlying9
  a9 := Tryd.isAgg9
  z9 := Tryd.sizeOf9
  v9 := Tryd.zeroValue9
  t46 := Tryd.underlying140
  a46 := Tryd.isAgg140
  z46 := Tryd.sizeOf140
  v46 := Tryd.zeroValue140
  t51 := Tryd.underlying32
  a51 := Tryd.isAgg32
  z51 := Tryd.sizeOf32
  v51 := Tryd.zeroValue32
  t146 := Tryd.underlying178
  a146 := Tryd.isAgg178
  z146 := Tryd.sizeOf178
  v146 := Tryd.zeroValue178
  g1 := by kernel_rfl }
open Go.RowKit Go.Lib in
theorem Tryd.strings_Index_one (s : ByteArray) (c : UInt8) (w : World) :
    Calls Tryd.prog 83 #[.string s, .string ⟨#[c]⟩] w fun e w' => e = .returned (.int .i64 (Lib.indexByte s.data.toList c)) ∧ w' = w := Any.strings_Index_one Tryd.lays143 s c w
open Go.RowKit Go.Lib in
theorem Tryd.strings_Index (s sub : ByteArray) (m : Int) (w : World) (hs : s.size < 4294967281) (hm : w.cell? ⟨1, 0, none⟩ = some (.int .i64 m)) :
    Calls Tryd.prog 83 #[.string s, .string sub] w fun e w' => e = .returned (.int .i64 (Lib.index s.data.toList sub.data.toList)) ∧ w' = w := Any.strings_Index Tryd.lays143 s sub m w hs hm
def Tryd.lays144_ren : Go.Shelf.Ren := ⟨fun | 144 => 57 | 143 => 83 | 219 => 102 | 217 => 120 | 225 => 121 | 224 => 122 | 267 => 123 | 266 => 129 | 314 => 130 | n => n, fun | 9 => 9 | 4 => 4 | 3 => 3 | 5 => 5 | 46 => 140 | 146 => 178 | 51 => 32 | n => n, fun | 1 => 1 | n => n⟩
theorem Tryd.lays144 : Go.Proofs.Lays.n144 Tryd.prog Tryd.lays144_ren := {
  mixed := by kernel_rfl
  f143 := Tryd.func83.trans (congrArg some (by kernel_rfl))
  f144 := Tryd.func57.trans (congrArg some (by kernel_rfl))
  f217 := Tryd.func120.trans (congrArg some (by kernel_rfl))
  f219 := Tryd.func102.trans (congrArg some (by kernel_rfl))
  f224 := Tryd.func122.trans (congrArg some (by kernel_rfl))
  f225 := Tryd.func121.trans (congrArg some (by kernel_rfl))
  f266 := Tryd.func129.trans (congrArg some (by kernel_rfl))
  f267 := Tryd.func123.trans (congrArg some (by kernel_rfl))
  f314 := Tryd.func130.trans (congrArg some (by kernel_rfl))
  t3 := Tryd.underlying3
  a3 := Tryd.isAgg3
  z3 := Tryd.sizeOf3
  v3 := Tryd.zeroValue3
  t4 := Tryd.underlying4
  a4 := Tryd.isAgg4
  z4 := Tryd.sizeOf4
  v4 := Tryd.zeroValue4
  t5 := Tryd.underlying5
  a5 := Tryd.isAgg5
  z5 := Tryd.sizeOf5
  v5 := Tryd.zeroValue5
  t9 := Tryd.underlying9
  a9 := Tryd.isAgg9
  z9 := Tryd.sizeOf9
  v9 := Tryd.zeroValue9
  t46 := Tryd.underlying140
  a46 := Tryd.isAgg140
  z46 := Tryd.sizeOf140
  v46 := Tryd.zeroValue140
  t51 := Tryd.underlying32
  a51 := Tryd.isAgg32
  z51 := Tryd.sizeOf32
  v51 := Tryd.zeroValue32
  t146 := Tryd.underlying178
  a146 := Tryd.isAgg178
  z146 := Tryd.sizeOf178
  v146 := Tryd.zeroValue178
  g1 := by kernel_rfl }
open Go.RowKit Go.Lib in
theorem Tryd.strings_Contains_one (s : ByteArray) (c : UInt8) (w : World) :
    Calls Tryd.prog 57 #[.string s, .string ⟨#[c]⟩] w fun e w' => e = .returned (.bool (decide (0 ≤ Lib.indexByte s.data.toList c))) ∧ w' = w := Any.strings_Contains_one Tryd.lays144 s c w
def Tryd.lays145_ren : Go.Shelf.Ren := ⟨fun | 145 => 61 | 220 => 87 | 219 => 102 | 217 => 120 | 225 => 121 | 224 => 122 | 267 => 123 | 266 => 129 | 314 => 130 | n => n, fun | 9 => 9 | 4 => 4 | 59 => 102 | 3 => 3 | 5 => 5 | 46 => 140 | 146 => 178 | 51 => 32 | n => n, fun | 1 => 1 | n => n⟩
theorem Tryd.lays145 : Go.Proofs.Lays.n145 Tryd.prog Tryd.lays145_ren := {
  mixed := by kernel_rfl
  f145 := Tryd.func61.trans (congrArg some (by kernel_rfl))
  f217 := Tryd.func120.trans (congrArg some (by kernel_rfl))
  f219 := Tryd.func102.trans (congrArg some (by kernel_rfl))
  f220 := Tryd.func87.trans (congrArg some (by kernel_rfl))
  f224 := Tryd.func122.trans (congrArg some (by kernel_rfl))
  f225 := Tryd.func121.trans (congrArg some (by kernel_rfl))
  f266 := Tryd.func129.trans (congrArg some (by kernel_rfl))
  f267 := Tryd.func123.trans (congrArg some (by kernel_rfl))
  f314 := Tryd.func130.trans (congrArg some (by kernel_rfl))
  t3 := Tryd.underlying3
  a3 := Tryd.isAgg3
  z3 := Tryd.sizeOf3
  v3 := Tryd.zeroValue3
  t4 := Tryd.underlying4
  a4 := Tryd.isAgg4
  z4 := Tryd.sizeOf4
  v4 := Tryd.zeroValue4
  t5 := Tryd.underlying5
  a5 := Tryd.isAgg5
  z5 := Tryd.sizeOf5
  v5 := Tryd.zeroValue5
  t9 := Tryd.underlying9
  a9 := Tryd.isAgg9
  z9 := Tryd.sizeOf9
  v9 := Tryd.zeroValue9
  t46 := Tryd.underlying140
  a46 := Tryd.isAgg140
  z46 := Tryd.sizeOf140
  v46 := Tryd.zeroValue140
  t51 := Tryd.underlying32
  a51 := Tryd.isAgg32
  z51 := Tryd.sizeOf32
  v51 := Tryd.zeroValue32
  t59 := Tryd.underlying102
  a59 := Tryd.isAgg102
  z59 := Tryd.sizeOf102
  v59 := Tryd.zeroValue102
  t146 := Tryd.underlying178
  a146 := Tryd.isAgg178
  z146 := Tryd.sizeOf178
  v146 := Tryd.zeroValue178
  g1 := by kernel_rfl }
open Go.RowKit Go.Lib in
theorem Tryd.strings_Cut (s sep : ByteArray) (m : Int) (w : World) (hs : s.size < 4294967281) (hm : w.cell? ⟨1, 0, none⟩ = some (.int .i64 m)) :
    Calls Tryd.prog 61 #[.string s, .string sep] w fun e w' => e = .returned (.tuple #[.string ⟨(Lib.cut s.data.toList sep.data.toList).1.toArray⟩, .string ⟨(Lib.cut s.data.toList sep.data.toList).2.1.toArray⟩, .bool (Lib.cut s.data.toList sep.data.toList).2.2]) ∧ ∃ n, w' = w.drewN n := Any.strings_Cut Tryd.lays145 s sep m w hs hm
end Go.Proofs
namespace Go.Proofs.YtbnjijffkjcmcaaDoor.AL
open Go
/-! The library's contracts as rows of the table. -/
theorem Runs.of_calls {P : Program} [Gl P] {f : FuncId} {fn : Func} {c : Code} (hf : P.funcs[f]? = some fn) (hn : fn.name ≠ "runtime.NumGoroutine") (hb : fn.body = some c) {args : List V} {v : V}
    (h : ∀ (E : Env) (us : List Value), GOK P E → RL E args us → ∃ u, Calls P f us.toArray E.w (fun e w' => e = .returned u ∧ RowKit.Below E.w.heap.size E.w w') ∧ ∀ E', R E' v u) : Runs P f args ⟨v, []⟩ := by
  intro E us hD hO hG hargs
  obtain ⟨u, hc, hr⟩ := h E us hG hargs
  unfold CalledX
  rw [run_enter hf hn hb]
  refine Calls.mono hc ?_
  rintro e w' ⟨rfl, hb⟩
  exact ⟨⟨w', E.O, E.σ, fun _ => False⟩, rfl, ⟨fun b hb => hb.elim, hr _, ⟨fun b x hx => by simp [Res.hp] at hx, fun b b' x x' g hx => by simp [Res.hp] at hx⟩, ⟨hb.os, hb.tape, hb.output, hb.size, fun g hg => hb.block g hg, fun h => absurd h (by decide)⟩, fun g _ => Iff.rfl, fun g hg => Nat.lt_of_lt_of_le (hO g hg) hb.size⟩⟩
theorem below_drewN (n : Nat) (w : World) : RowKit.Below w.heap.size w (w.drewN n) := ⟨rfl, rfl, rfl, Nat.le_refl _, fun _ _ => rfl⟩
def strOf : List V → Option ByteArray
  | [.str s] => some s
  | _ => none
theorem strOf_eq (r : List V) (s : ByteArray) (h : strOf r = some s) : r = [.str s] := by
  unfold strOf at h
  split at h
  · cases h; rfl
  · cases h
abbrev strsOf := parseRows strOf
def strRows (l : List ByteArray) : List (List V) := l.map fun s => [.str s]
theorem strRows_parse (l : List ByteArray) : strsOf (strRows l) = some l := parse_map (row := fun s => [V.str s]) (fun _ => rfl) l
theorem strRows_cells {E : Env} : ∀ {l : List ByteArray} {g o : Nat}, RRows E (strRows l) g o → ∀ (j : Nat) x, l[j]? = some x → E.w.cell? ⟨g, o + j, none⟩ = some (.string x)
  | [], g, o, _, j, x, h => by simp at h
  | s :: l, g, o, hr, j, x, h => by
    simp only [strRows, List.map_cons, RRows, RRow, List.length_cons, List.length_nil] at hr
    obtain ⟨⟨⟨v, h1, h2, h3⟩, _⟩, h4⟩ := hr
    simp only [R] at h3
    subst h3
    cases j with
    | zero => simp at h; subst h; exact h1
    | succ j =>
      have := strRows_cells h4 j x (by simpa using h)
      rw [← this]
      congr 2
      omega
/-- A decimal numeral. -/
def dig (n : Int) : ByteArray := ⟨(Lib.decDigits n.toNat).toArray⟩
def joinB (xs : List ByteArray) (sep : ByteArray) : ByteArray := ⟨(Lib.join (xs.map (·.data.toList)) sep.data.toList).toArray⟩
def SJoin : List V → Option Res
  | [.rd 1 rows, .str sep] => match strsOf rows with
    | some xs => if (joinB xs sep).size ≤ 140737488355328 ∧ xs.length ≤ 140737488355328 then some ⟨.str (joinB xs sep), []⟩ else none
    | none => none
  | _ => none
def SSmall : List V → Option Res
  | [.int .i64 n] => if 0 ≤ n ∧ n < 100 then some ⟨.str (dig n), []⟩ else none
  | _ => none
def SFmt : List V → Option Res
  | [.int .u64 n, .int .i64 b] => if 0 ≤ n ∧ n < 100 ∧ b = 10 then some ⟨.str (dig n), []⟩ else none
  | _ => none
end Go.Proofs.YtbnjijffkjcmcaaDoor.AL
