import Derived.Shelf.Strings.Builder1
import Derived.Shelf.Strings.Builder2
import Derived.Shelf.Strings.OnBuilder
import Derived.Shelf.Small.Wraps
import Derived.Shelf.Strings.BuilderF
import Derived.Shelf.Strings.BuilderK
import Derived.Shelf.Strconv.Itoa0
import Derived.Shelf.Strconv.Itoa1
import Derived.Shelf.LaysM
import Derived.Shelf.Strconv.Itoa2
import Derived.Shelf.Strconv.Itoa3
import Derived.Shelf.Strings.Search1
import Derived.Shelf.Strings.Search2
import Derived.Shelf.Strings.Search3
import Derived.Shelf.Strings.Cut
import Derived.Shelf.Strings.Shaped
import Derived.Shelf.Strings.Prefix
import Derived.Shelf.Unicode.Decode
import Derived.Shelf.Unicode.DecodeSlow
import Derived.Shelf.Unicode.DecodeAny
import Derived.Test.YtpcblologcindaaDoorProg
import Derived.Test.YtpcblologcindaaDoorS02lW1
import Derived.Test.YtpcblologcindaaDoorS02lW4
/- What single functions compute: a part of the proof; no conditions. -/
set_option linter.unusedVariables false
set_option linter.unusedSimpArgs false
set_option linter.unusedSectionVars false
set_option maxRecDepth 100000
namespace Go.Proofs
open Go.Shelf
def Tryd.lays156_ren : Go.Shelf.Ren := ⟨fun | 156 => 55 | 165 => 81 | 166 => 82 | 169 => 83 | 240 => 99 | 241 => 100 | 276 => 116 | 277 => 117 | n => n, fun | 31 => 77 | 9 => 9 | 3 => 3 | 4 => 4 | 0 => 0 | 20 => 20 | 72 => 134 | 76 => 136 | 70 => 131 | 37 => 132 | 75 => 115 | 127 => 154 | 164 => 167 | 5 => 5 | 80 => 138 | n => n, fun | n => n⟩
theorem Tryd.lays156 : Go.Proofs.Lays.n156 Tryd.prog Tryd.lays156_ren := {
  mixed := by kernel_rfl
  f156 := Tryd.func55.trans (congrArg some (by kernel_rfl))
  f165 := Tryd.func81.trans (congrArg some (by kernel_rfl))
  f166 := Tryd.func82.trans (congrArg some (by kernel_rfl))
  f169 := Tryd.func83.trans (congrArg some (by kernel_rfl))
  f240 := Tryd.func99.trans (congrArg some (by kernel_rfl))
  f241 := Tryd.func100.trans (congrArg some (by kernel_rfl))
  f276 := Tryd.func116.trans (congrArg some (by kernel_rfl))
  f277 := Tryd.func117.trans (congrArg some (by kernel_rfl))
  t0 := Tryd.underlying0
  a0 := Tryd.isAgg0
  z0 := Tryd.sizeOf0
  v0 := Tryd.zeroValue0
  t3 := Tryd.underlying3
  a3 := Tryd.isAgg3
  z3 := Tryd.sizeOf3
  v3 := Tryd.zeroValue3
  t4 := Tryd.underlying4
  a4 := Tryd.isAgg4
  z4 := Tryd.sizeOf4
  v4 := Tryd.zeroValue4
  t9 := Tryd.underlying9
  a9 := Tryd.isAgg9
  z9 := Tryd.sizeOf9
  v9 := Tryd.zeroValue9
  t20 := Tryd.underlying20
  a20 := Tryd.isAgg20
  z20 := Tryd.sizeOf20
  v20 := Tryd.zeroValue20
  t31 := Tryd.underlying77
  a31 := Tryd.isAgg77
  z31 := Tryd.sizeOf77
  v31 := Tryd.zeroValue77
  t37 := Tryd.underlying132
  a37 := Tryd.isAgg132
  z37 := Tryd.sizeOf132
  v37 := Tryd.zeroValue132
  t70 := Tryd.underlying131
  a70 := Tryd.isAgg131
  z70 := Tryd.sizeOf131
  v70 := Tryd.zeroValue131
  t72 := Tryd.underlying134
  a72 := Tryd.isAgg134
  z72 := Tryd.sizeOf134
  v72 := Tryd.zeroValue134
  t75 := Tryd.underlying115
  a75 := Tryd.isAgg115
  z75 := Tryd.sizeOf115
  v75 := Tryd.zeroValue115
  t76 := Tryd.underlying136
  a76 := Tryd.isAgg136
  z76 := Tryd.sizeOf136
  v76 := Tryd.zeroValue136
  t127 := Tryd.underlying154
  a127 := Tryd.isAgg154
  z127 := Tryd.sizeOf154
  v127 := Tryd.zeroValue154
  t164 := Tryd.underlying167
  a164 := Tryd.isAgg167
  z164 := Tryd.sizeOf167
  v164 := Tryd.zeroValue167 }
theorem Tryd.Builder_Extra_156 : Builder.Extra Tryd.prog Tryd.lays156_ren := {
  sizeBuilder := by kernel_rfl
  liesBuilder := by kernel_rfl
  t5 := Tryd.underlying5
  a5 := Tryd.isAgg5
  z5 := Tryd.sizeOf5
  v5 := Tryd.zeroValue5
  infoByte := by kernel_rfl
  cellsByte := by kernel_rfl
  sizeByte := by kernel_rfl
  neB5 := by decide }
open Go.RowKit in
theorem Tryd.strings_Join_none (a : Option Addr) (c : Nat) (sep : ByteArray) (w : World) :
    Calls Tryd.prog 55 #[.slice a 0 c, .string sep] w fun e w' => e = .returned (.string ⟨#[]⟩) ∧ w' = w := Any.strings_Join_none Tryd.lays156 Tryd.Builder_Extra_156 a c sep w
open Go.RowKit in
theorem Tryd.strings_Join (bk o c : Nat) (xs : List ByteArray) (sep : ByteArray) (w : World) (hcells : ∀ (j : Nat) x, xs[j]? = some x → w.cell? ⟨bk, o + j, none⟩ = some (.string x)) (hbk : bk < w.heap.size) (hN : xs.length ≤ 140737488355328) (hcap : xs.length ≤ c) (hlen : (Lib.join (xs.map (·.data.toList)) sep.data.toList).length ≤ 140737488355328) :
    Calls Tryd.prog 55 #[.slice (some ⟨bk, o, none⟩) xs.length c, .string sep] w fun e w' => e = .returned (.string ⟨(Lib.join (xs.map (·.data.toList)) sep.data.toList).toArray⟩) ∧ Below w.heap.size w w' := Any.strings_Join Tryd.lays156 Tryd.Builder_Extra_156 bk o c xs sep w hcells hbk hN hcap hlen
def Tryd.lays283_ren : Go.Shelf.Ren := ⟨fun | 283 => 95 | n => n, fun | 3 => 3 | 9 => 9 | 4 => 4 | n => n, fun | n => n⟩
theorem Tryd.lays283 : Go.Proofs.Lays.n283 Tryd.prog Tryd.lays283_ren := {
  mixed := by kernel_rfl
  f283 := Tryd.func95.trans (congrArg some (by kernel_rfl))
  t3 := Tryd.underlying3
  a3 := Tryd.isAgg3
  z3 := Tryd.sizeOf3
  v3 := Tryd.zeroValue3
  t4 := Tryd.underlying4
  a4 := Tryd.isAgg4
  z4 := Tryd.sizeOf4
  v4 := Tryd.zeroValue4
  t9 := Tryd.underlying9
  a9 := Tryd.isAgg9
  z9 := Tryd.sizeOf9
  v9 := Tryd.zeroValue9 }
open Go.Lib in
theorem Tryd.internal_strconv_small (i : Nat) (h : i < 100) (w : World) :
    Calls Tryd.prog 95 #[.int .i64 i] w fun e w' => e = .returned (.string ⟨(Lib.decDigits i).toArray⟩) ∧ w' = w := Any.internal_strconv_small Tryd.lays283 i h w
def Tryd.lays171_ren : Go.Shelf.Ren := ⟨fun | 171 => 65 | 243 => 89 | 246 => 103 | 283 => 95 | 284 => 96 | 285 => 97 | 286 => 98 | 129 => 112 | 317 => 111 | 318 => 113 | 319 => 114 | 320 => 115 | 337 => 126 | 338 => 127 | n => n, fun | 3 => 3 | 9 => 9 | 2 => 2 | 4 => 4 | 171 => 149 | 0 => 0 | 53 => 22 | 37 => 132 | 5 => 5 | 173 => 152 | 212 => 163 | 51 => 51 | 20 => 20 | 213 => 164 | 46 => 143 | 232 => 183 | 233 => 184 | n => n, fun | 17 => 0 | 18 => 4 | 19 => 5 | n => n⟩
theorem Tryd.lays171 : Go.Proofs.Lays.n171 Tryd.prog Tryd.lays171_ren := {
  mixed := by kernel_rfl
  f129 := Tryd.func112.trans (congrArg some (by kernel_rfl))
  f171 := Tryd.func65.trans (congrArg some (by kernel_rfl))
  f243 := Tryd.func89.trans (congrArg some (by kernel_rfl))
  f246 := Tryd.func103.trans (congrArg some (by kernel_rfl))
  f283 := Tryd.func95.trans (congrArg some (by kernel_rfl))
  f284 := Tryd.func96.trans (congrArg some (by kernel_rfl))
  f285 := Tryd.func97.trans (congrArg some (by kernel_rfl))
  f286 := Tryd.func98.trans (congrArg some (by kernel_rfl))
  f317 := Tryd.func111.trans (congrArg some (by kernel_rfl))
  f318 := Tryd.func113.trans (congrArg some (by kernel_rfl))
  f319 := Tryd.func114.trans (congrArg some (by kernel_rfl))
  f320 := Tryd.func115.trans (congrArg some (by kernel_rfl))
  f337 := Tryd.func126.trans (congrArg some (by kernel_rfl))
  f338 := Tryd.func127.trans (congrArg some (by kernel_rfl))
  t0 := Tryd.underlying0
  a0 := Tryd.isAgg0
  z0 := Tryd.sizeOf0
  v0 := Tryd.zeroValue0
  t2 := Tryd.underlying2
  a2 := Tryd.isAgg2
  z2 := Tryd.sizeOf2
  v2 := Tryd.zeroValue2
  t3 := Tryd.underlying3
  a3 := Tryd.isAgg3
  z3 := Tryd.sizeOf3
  v3 := Tryd.zeroValue3
  t4 := Tryd.underlying4
  a4 := Tryd.isAgg4
  z4 := Tryd.sizeOf4
  v4 := Tryd.zeroValue4
  t5 := Tryd.underlying5
  a5 := Tryd.isAgg5
  z5 := Tryd.sizeOf5
  v5 := Tryd.zeroValue5
  t9 := Tryd.underlying9
  a9 := Tryd.isAgg9
  z9 := Tryd.sizeOf9
  v9 := Tryd.zeroValue9
  t20 := Tryd.underlying20
  a20 := Tryd.isAgg20
  z20 := Tryd.sizeOf20
  v20 := Tryd.zeroValue20
  t37 := Tryd.underlying132
  a37 := Tryd.isAgg132
  z37 := Tryd.sizeOf132
  v37 := Tryd.zeroValue132
  t46 := Tryd.underlying143
  a46 := Tryd.isAgg143
  z46 := Tryd.sizeOf143
  v46 := Tryd.zeroValue143
  t51 := Tryd.underlying51
  a51 := Tryd.isAgg51
  z51 := Tryd.sizeOf51
  v51 := Tryd.zeroValue51
  t53 := Tryd.underlying22
  a53 := Tryd.isAgg22
  z53 := Tryd.sizeOf22
  v53 := Tryd.zeroValue22
  t171 := Tryd.underlying149
  a171 := Tryd.isAgg149
  z171 := Tryd.sizeOf149
  v171 := Tryd.zeroValue149
  t173 := Tryd.underlying152
  a173 := Tryd.isAgg152
  z173 := Tryd.sizeOf152
  v173 := Tryd.zeroValue152
  t212 := Tryd.underlying163
  a212 := Tryd.isAgg163
  z212 := Tryd.sizeOf163
  v212 := Tryd.zeroValue163
  t213 := Tryd.underlying164
  a213 := Tryd.isAgg164
  z213 := Tryd.sizeOf164
  t232 := Tryd.underlying183
  a232 := Tryd.isAgg183
  z232 := Tryd.sizeOf183
  v232 := Tryd.zeroValue183
  t233 := Tryd.underlying184
  a233 := Tryd.isAgg184
  z233 := Tryd.sizeOf184
  v233 := Tryd.zeroValue184
  g17 := by kernel_rfl
  g18 := by kernel_rfl
  g19 := by kernel_rfl }
open Go.RowKit Go.Sort Go.Lib in
theorem Tryd.strconv_Itoa_small (i : Nat) (hi : i < 100) (w : World) :
    Calls Tryd.prog 65 #[.int .i64 i] w fun e w' => e = .returned (.string ⟨(Lib.decDigits i).toArray⟩) ∧ w' = w := Any.strconv_Itoa_small Tryd.lays171 i hi w
end Go.Proofs
namespace Go.Proofs.YtpcblologcindaaDoor.AL
open Go
/-! The library's contracts as rows of the table. -/
theorem Runs.of_calls {P : Program} [Gl P] {f : FuncId} {fn : Func} {c : Code} (hf : P.funcs[f]? = some fn) (hn : fn.name ≠ "runtime.NumGoroutine") (hb : fn.body = some c) {args : List V} {v : V}
    (h : ∀ (E : Env) (us : List Value), GOK P E → RL E args us → ∃ u, Calls P f us.toArray E.w (fun e w' => e = .returned u ∧ RowKit.Below E.w.heap.size E.w w') ∧ ∀ E', R E' v u) : Runs P f args ⟨v, []⟩ := by
  intro E us hD hO hG hargs
  obtain ⟨u, hc, hr⟩ := h E us hG hargs
  unfold CalledX
  rw [run_enter hf hn hb]
  refine Calls.mono hc ?_
  rintro e w' ⟨rfl, hb⟩
  exact ⟨⟨w', E.O, E.σ, fun _ => False⟩, rfl, ⟨fun b hb => hb.elim, hr _, ⟨fun b x hx => by simp [Res.hp] at hx, fun b b' x x' g hx => by simp [Res.hp] at hx⟩, ⟨hb.os, hb.tape, hb.output, hb.size, fun g hg => hb.block g hg⟩, fun g _ => Iff.rfl, fun g hg => Nat.lt_of_lt_of_le (hO g hg) hb.size⟩⟩
theorem below_drewN (n : Nat) (w : World) : RowKit.Below w.heap.size w (w.drewN n) := ⟨rfl, rfl, rfl, Nat.le_refl _, fun _ _ => rfl⟩
def strOf : List V → Option ByteArray
  | [.str s] => some s
  | _ => none
theorem strOf_eq (r : List V) (s : ByteArray) (h : strOf r = some s) : r = [.str s] := by
  unfold strOf at h
  split at h
  · cases h; rfl
  · cases h
abbrev strsOf := parseRows strOf
def strRows (l : List ByteArray) : List (List V) := l.map fun s => [.str s]
theorem strRows_parse (l : List ByteArray) : strsOf (strRows l) = some l := parse_map (row := fun s => [V.str s]) (fun _ => rfl) l
theorem strRows_cells {E : Env} : ∀ {l : List ByteArray} {g o : Nat}, RRows E (strRows l) g o → ∀ (j : Nat) x, l[j]? = some x → E.w.cell? ⟨g, o + j, none⟩ = some (.string x)
  | [], g, o, _, j, x, h => by simp at h
  | s :: l, g, o, hr, j, x, h => by
    simp only [strRows, List.map_cons, RRows, RRow, List.length_cons, List.length_nil] at hr
    obtain ⟨⟨⟨v, h1, h2, h3⟩, _⟩, h4⟩ := hr
    simp only [R] at h3
    subst h3
    cases j with
    | zero => simp at h; subst h; exact h1
    | succ j =>
      have := strRows_cells h4 j x (by simpa using h)
      rw [← this]
      congr 2
      omega
/-- A decimal numeral. -/
def dig (n : Int) : ByteArray := ⟨(Lib.decDigits n.toNat).toArray⟩
def joinB (xs : List ByteArray) (sep : ByteArray) : ByteArray := ⟨(Lib.join (xs.map (·.data.toList)) sep.data.toList).toArray⟩
def SJoin : List V → Option Res
  | [.rd 1 rows, .str sep] => match strsOf rows with
    | some xs => if (joinB xs sep).size ≤ 140737488355328 ∧ xs.length ≤ 140737488355328 then some ⟨.str (joinB xs sep), []⟩ else none
    | none => none
  | _ => none
def SSmall : List V → Option Res
  | [.int .i64 n] => if 0 ≤ n ∧ n < 100 then some ⟨.str (dig n), []⟩ else none
  | _ => none
def SFmt : List V → Option Res
  | [.int .u64 n, .int .i64 b] => if 0 ≤ n ∧ n < 100 ∧ b = 10 then some ⟨.str (dig n), []⟩ else none
  | _ => none
end Go.Proofs.YtpcblologcindaaDoor.AL
namespace Go.Proofs.YtpcblologcindaaDoor.AL
open Go
attribute [local simp] qf cv qbin ibin sbin qun retPost rvOk ctV ctPost marksOk retV resAll resOf V.lt ltL V.ren renL V.exp cleanL V.clean closedL V.closed V.cells V.one V.tree
  loadV cellsAt slNew ownRows ownCells V.isOwn slStore srcO qlook mlook mget mstr zval qnone qmake mput lmap isAggD placesOf fillV putCells lstore bound seqParts V.sh shL Blk.sh newV V.ok peqs peq srcRows appOk mmV mmR hidE V.fz fzL Blk.fz fzOk and_assoc
attribute [-simp] Int.not_le Int.not_lt Nat.not_le Nat.not_lt
theorem runs_small : ∀ args r, SSmall args = some r → Runs Tryd.prog 95 args r := by
  intro args r hh
  unfold SSmall at hh
  split at hh
  · rename_i n
    split at hh
    · rename_i hn
      cases hh
      refine Runs.of_calls Tryd.func95 (by decide) rfl fun E us hG hr => ?_
      simp only [RL, R] at hr
      obtain ⟨_, _, rfl, rfl, rfl⟩ := hr
      obtain ⟨i, rfl⟩ := Int.eq_ofNat_of_zero_le hn.1
      refine ⟨.string (dig i), (Tryd.internal_strconv_small i (by omega) E.w).mono ?_, fun E' => by simp [R]⟩
      rintro e w' ⟨rfl, rfl⟩
      exact ⟨by simp [dig], RowKit.Below.refl _ _⟩
    · cases hh
  · cases hh
theorem runs_Itoa : ∀ args r, SSmall args = some r → Runs Tryd.prog 65 args r := by
  intro args r hh
  unfold SSmall at hh
  split at hh
  · rename_i n
    split at hh
    · rename_i hn
      cases hh
      refine Runs.of_calls Tryd.func65 (by decide) rfl fun E us hG hr => ?_
      simp only [RL, R] at hr
      obtain ⟨_, _, rfl, rfl, rfl⟩ := hr
      obtain ⟨i, rfl⟩ := Int.eq_ofNat_of_zero_le hn.1
      refine ⟨.string (dig i), (Tryd.strconv_Itoa_small i (by omega) E.w).mono ?_, fun E' => by simp [R]⟩
      rintro e w' ⟨rfl, rfl⟩
      exact ⟨by simp [dig], RowKit.Below.refl _ _⟩
    · cases hh
  · cases hh
theorem runs_Join : ∀ args r, SJoin args = some r → Runs Tryd.prog 55 args r := by
  intro args r hh
  unfold SJoin at hh
  split at hh
  · rename_i rows sep
    split at hh
    · rename_i xs hxs
      split at hh
      · rename_i hn
        cases hh
        have h1 := parse_eq strOf_eq hxs
        subst h1
        refine Runs.of_calls Tryd.func55 (by decide) rfl fun E us hG hr => ?_
        simp only [RL, R] at hr
        obtain ⟨_, _, rfl, ⟨ad, cap, rfl, hc1, hc2, hrow⟩, _, _, rfl, rfl, rfl⟩ := hr
        refine ⟨.string (joinB xs sep), ?_, fun E' => by simp [R]⟩
        cases xs with
        | nil =>
          refine (Tryd.strings_Join_none ad cap sep E.w).mono ?_
          rintro e w' ⟨rfl, rfl⟩
          exact ⟨rfl, RowKit.Below.refl _ _⟩
        | cons x xs =>
          rcases hrow with hrow | ⟨g, o, rfl, hO, hg, hl, hrr⟩
          · simp at hrow
          · have hlen : (List.map (fun s => [V.str s]) (x :: xs)).length = (x :: xs).length := by simp
            rw [hlen] at hc1 hc2 ⊢
            refine (Tryd.strings_Join g o cap (x :: xs) sep E.w (strRows_cells hrr) hg hn.2 hc1 ?_).mono ?_
            · have : (joinB (x :: xs) sep).size = (Lib.join ((x :: xs).map (·.data.toList)) sep.data.toList).length := by simp [joinB, ByteArray.size]
              rw [← this]; exact hn.1
            · rintro e w' ⟨rfl, hb⟩
              exact ⟨rfl, hb⟩
      · cases hh
    · cases hh
  · cases hh
def M_f80 : Md := fun i => some #[]
@[simp] theorem M_f80_eq {i : Nat} : M_f80 i = (some #[]) := rfl
theorem runs_FormatUint_i : ∀ args r, SFmt args = some r → Runs Tryd.prog 80 args r := by
  intro args r hh
  unfold SFmt at hh
  split at hh
  · rename_i n b
    split at hh
    · rename_i hn
      obtain ⟨h0, h1, rfl⟩ := hn
      cases hh
      have hT : (T0.add 95 SSmall).ok Tryd.prog := Tab.add_ok (T0_ok _) runs_small
      have w1 : IntKind.i64.wrap n = n := wr_i64 (by omega) (by omega)
      refine Runs.of_body Tryd.func80 (by decide) rfl (by simp [Tryd.f80]) ?_
      refine W.of_WE hT mixed M_f80 _ (by kernel_rfl) ?_
      simp [Tryd.f80, SSmall, h0, h1, w1]
    · cases hh
  · cases hh
theorem runs_FormatUint : ∀ args r, SFmt args = some r → Runs Tryd.prog 54 args r := by
  intro args r hh
  have hs := hh
  unfold SFmt at hh
  split at hh
  · rename_i n b
    split at hh
    · cases hh
      have hT : (T0.add 80 SFmt).ok Tryd.prog := Tab.add_ok (T0_ok _) runs_FormatUint_i
      refine Runs.of_body Tryd.func54 (by decide) rfl (by simp [Tryd.f54]) ?_
      refine W.of_WE hT mixed M0 _ (by kernel_rfl) ?_
      simp [Tryd.f54, hs]
    · cases hh
  · cases hh

end Go.Proofs.YtpcblologcindaaDoor.AL
namespace Go.Proofs.YtpcblologcindaaDoor.AL
open Go
attribute [local simp] qf cv qbin ibin sbin qun retPost rvOk ctV ctPost marksOk retV resAll resOf V.lt ltL V.ren renL V.exp cleanL V.clean closedL V.closed V.cells V.one V.tree
  loadV cellsAt slNew ownRows ownCells V.isOwn slStore srcO qlook mlook mget mstr zval qnone qmake mput lmap isAggD placesOf fillV putCells lstore bound seqParts V.sh shL Blk.sh newV V.ok peqs peq srcRows appOk mmV mmR hidE V.fz fzL Blk.fz fzOk and_assoc
attribute [-simp] Int.not_le Int.not_lt Nat.not_le Nat.not_lt
def by4 (l : Int) (i : Nat) : Int := bAnd .u64 (bShr .u64 l (24 - 8 * (i : Int))) 255
def rows4 (l : Int) (k : Nat) : List ByteArray := (List.range k).map fun i => dig (by4 l i)
def txt4 (l : Int) : ByteArray := joinB (rows4 l 4) ⟨#[46]⟩
theorem rows4_snoc (l : Int) (k : Nat) : strRows (rows4 l k) ++ [[.str (dig (by4 l k))]] = strRows (rows4 l (k + 1)) := by
  simp [rows4, strRows, List.range_succ]
theorem rows4_len (l : Int) (k : Nat) : (strRows (rows4 l k)).length = k := by simp [strRows, rows4]
def SAddrT : List V → Option Res
  | [.int .u8 f, .agg [.int .u64 h, .int .u64 l]] => if f = 4 ∧ h = 0 ∧ 0 ≤ l ∧ l < 4294967296 ∧ (∀ i ∈ List.range 4, 0 ≤ by4 l i ∧ by4 l i < 100) ∧ (txt4 l).size ≤ 140737488355328 then some ⟨.tup [.str (txt4 l), .int .i64 0], []⟩ else none
  | _ => none
theorem runs_AddrText : ∀ args r, SAddrT args = some r → Runs Tryd.prog 27 args r := by
  intro args r hh
  unfold SAddrT at hh
  split at hh
  · rename_i f h l
    split at hh
    · rename_i hin
      obtain ⟨rfl, rfl, h0, h1, hb, hsz⟩ := hin
      cases hh
      have hj : SJoin [.rd 1 (strRows (rows4 l 4)), .str ⟨#[46]⟩] = some ⟨.str (txt4 l), []⟩ := by
        simp only [SJoin, strRows_parse]
        rw [if_pos ⟨hsz, by simp [rows4]⟩]
        rfl
      have hca : cAddr 4 0 l = true := by simp [cAddr]; omega
      have hT : (((T0.add 17 SAddr).add 54 SFmt).add 55 SJoin).ok Tryd.prog := Tab.add_ok (Tab.add_ok (Tab.add_ok (T0_ok _) runs_number_CheckAddr) runs_FormatUint) runs_Join
      refine Runs.of_body Tryd.func27 (by decide) rfl (by simp [Tryd.f27]) ?_
      refine W.seqE hT mixed M0 (by kernel_rfl) ?_
      simp [Tryd.f27]
      refine W.seqE hT mixed M0 (by kernel_rfl) ?_
      simp [Tryd.f27, SAddr, hca]
      refine W.seqE hT mixed M0 (by kernel_rfl) ?_
      simp [Tryd.f27]
      refine W.seqE hT mixed M0 (by kernel_rfl) ?_
      simp [Tryd.f27]
      refine W.wk (Wk.adopt 6 1 9 (by omega) (by simp)) ?_
      refine W.cut True [(6, .own 0)] [.sl 1 9 (strRows (rows4 l 4))] 33 ?_ ?_
      · refine W.seqE hT mixed M0 (by kernel_rfl) ?_
        simp [Tryd.f27]
        refine W.block (W.for (fun k => True) (fun k => [(3, .ptr 0 0), (6, .own 1), (16, .int .i64 k)]) (fun k => [.box 24 [.int .u64 0, .int .u64 l], .sl 1 9 (strRows (rows4 l k))]) 33 4 trivial ?_ ?_)
        · simp [strRows, rows4]
        · intro k hk _
          refine W.of_WE hT mixed M0 _ (by kernel_rfl) ?_
          by_cases hlt : k < 4
          · have hlt' : (k : Int) < 4 := by omega
            have hw1 : IntKind.i64.wrap ((k : Int) + 1) = k + 1 := wr_i64 (by omega) (by omega)
            have hw2 : IntKind.i64.wrap (8 * (k : Int)) = 8 * k := wr_i64 (by omega) (by omega)
            have hw3 : IntKind.i64.wrap (24 - 8 * (k : Int)) = 24 - 8 * k := wr_i64 (by omega) (by omega)
            have hbk := hb k (List.mem_range.2 hlt)
            have hp : (0 : Int) ≤ 24 - 8 * (k : Int) := by omega
            have hf : SFmt [.int .u64 (bAnd .u64 (bShr .u64 l (24 - 8 * (k : Int))) 255), .int .i64 10] = some ⟨.str (dig (by4 l k)), []⟩ := by
              simp only [SFmt]
              have hc := hbk.2
              have hc0 := hbk.1
              unfold by4 at hc hc0 ⊢
              rw [if_pos ⟨hc0, hc, trivial⟩]
            have hsn := rows4_snoc l k
            have hln := rows4_len l k
            generalize strRows (rows4 l k) = R at *
            simp [hlt, hlt', hw1, hw2, hw3, hp, hf]
            exact ⟨by omega, by omega, by omega, hsn⟩
          · have : k = 4 := by omega
            subst this
            simp
      · intro _
        refine W.wk (Wk.freeze 0 (.sl 1 9 (strRows (rows4 l 4))) (by simp) (by simp)) ?_
        refine W.of_WE hT mixed M0 _ (by kernel_rfl) ?_
        simp [Tryd.f27, hj]
    · cases hh
  · cases hh

end Go.Proofs.YtpcblologcindaaDoor.AL
namespace Go.Proofs.YtpcblologcindaaDoor.AL
open Go
attribute [local simp] qf cv qbin ibin sbin qun retPost rvOk ctV ctPost marksOk retV resAll resOf V.lt ltL V.ren renL V.exp cleanL V.clean closedL V.closed V.cells V.one V.tree
  loadV cellsAt slNew ownRows ownCells V.isOwn slStore srcO qlook mlook mget mstr zval qnone qmake mput lmap isAggD placesOf fillV putCells lstore bound seqParts V.sh shL Blk.sh newV V.ok peqs peq srcRows appOk mmV mmR hidE V.fz fzL Blk.fz fzOk and_assoc
attribute [-simp] Int.not_le Int.not_lt Nat.not_le Nat.not_lt
def txtP (l n : Int) : ByteArray := txt4 l ++ ⟨#[47]⟩ ++ dig n
def STextP : List V → Option Res
  | [.agg [.int .u8 f, .int .u64 h, .int .u64 l, .int .i64 n]] => if chkP f h l n = 0 ∧ f = 4 ∧ h = 0 ∧ 0 ≤ l ∧ l < 4294967296 ∧ n < 100 ∧ (∀ i ∈ List.range 4, 0 ≤ by4 l i ∧ by4 l i < 100) ∧ (txt4 l).size ≤ 1000 ∧ (dig n).size ≤ 1000 then some ⟨.tup [.str (txtP l n), .int .i64 0], []⟩ else none
  | _ => none
def M_f31 : Md := fun i => some #[]
@[simp] theorem M_f31_eq {i : Nat} : M_f31 i = (some #[]) := rfl
theorem runs_number_Text : ∀ args r, STextP args = some r → Runs Tryd.prog 31 args r := by
  intro args r hh
  unfold STextP at hh
  split at hh
  · rename_i f h l n
    split at hh
    · rename_i hin
      obtain ⟨hc, rfl, rfl, h0, h1, hn, hb, hs1, hs2⟩ := hin
      cases hh
      have hA : inA 0 l := ⟨by omega, by omega, h0, by omega⟩
      obtain ⟨j, rfl, hj, _⟩ := chk_zero hc
      have ht : SAddrT [.int .u8 4, .agg [.int .u64 0, .int .u64 l]] = some ⟨.tup [.str (txt4 l), .int .i64 0], []⟩ := by
        simp only [SAddrT]
        rw [if_pos ⟨trivial, trivial, h0, h1, hb, by omega⟩]
      have hi : SSmall [.int .i64 (j : Int)] = some ⟨.str (dig j), []⟩ := by
        simp only [SSmall]
        rw [if_pos ⟨by omega, hn⟩]
      have hT : (((T0.add 25 SCheck).add 27 SAddrT).add 65 SSmall).ok Tryd.prog := Tab.add_ok (Tab.add_ok (Tab.add_ok (T0_ok _) runs_number_Check) runs_AddrText) runs_Itoa
      refine Runs.of_body Tryd.func31 (by decide) rfl (by simp [Tryd.f31]) ?_
      refine W.of_WE hT mixed M_f31 _ (by kernel_rfl) ?_
      simp only [txtP]
      generalize txt4 l = B at *
      generalize dig j = D at *
      simp [Tryd.f31, SCheck, hA, hc, ht, hi]
      have : (⟨#[47]⟩ : ByteArray).size = 1 := rfl
      omega
    · cases hh
  · cases hh
theorem dig_lt {n : Nat} (h : n < 10) : dig n = ⟨#[UInt8.ofNat (48 + n)]⟩ := by
  unfold dig
  rw [Int.toNat_natCast, Lib.decDigits, dif_pos h]
theorem dig_lt2 {n : Nat} (h : n < 10) (m : Nat) (hm : m < 10) (h0 : 0 < n) : dig ((10 * n + m : Nat) : Int) = ⟨#[UInt8.ofNat (48 + n), UInt8.ofNat (48 + m)]⟩ := by
  unfold dig
  rw [Int.toNat_natCast, Lib.decDigits, dif_neg (by omega), Lib.decDigits, dif_pos (by omega)]
  rw [show (10 * n + m) / 10 = n by omega, show (10 * n + m) % 10 = m by omega]
  rfl
/-- The chapter's example. -/
def ex24 : ByteArray := ⟨#[49, 48, 46, 48, 46, 48, 46, 48, 47, 50, 52]⟩
theorem by4_ex : by4 167772160 0 = 10 ∧ by4 167772160 1 = 0 ∧ by4 167772160 2 = 0 ∧ by4 167772160 3 = 0 := ⟨by kernel_rfl, by kernel_rfl, by kernel_rfl, by kernel_rfl⟩
theorem dig10 : dig 10 = ⟨#[49, 48]⟩ := dig_lt2 (n := 1) (by omega) 0 (by omega) (by omega)
theorem dig0 : dig 0 = ⟨#[48]⟩ := dig_lt (n := 0) (by omega)
theorem dig24 : dig 24 = ⟨#[50, 52]⟩ := dig_lt2 (n := 2) (by omega) 4 (by omega) (by omega)
theorem dig8 : dig 8 = ⟨#[56]⟩ := dig_lt (n := 8) (by omega)
theorem txt4_ex : txt4 167772160 = ⟨#[49, 48, 46, 48, 46, 48, 46, 48]⟩ := by
  obtain ⟨e0, e1, e2, e3⟩ := by4_ex
  have e : rows4 167772160 4 = [dig 10, dig 0, dig 0, dig 0] := by
    show [dig (by4 167772160 0), dig (by4 167772160 1), dig (by4 167772160 2), dig (by4 167772160 3)] = _
    rw [e0, e1, e2, e3]
  unfold txt4
  rw [e, dig10, dig0]
  show joinB [⟨#[49, 48]⟩, ⟨#[48]⟩, ⟨#[48]⟩, ⟨#[48]⟩] ⟨#[46]⟩ = ⟨#[49, 48, 46, 48, 46, 48, 46, 48]⟩
  kernel_rfl
theorem txtP_ex : txtP 167772160 24 = ex24 := by
  unfold txtP
  rw [txt4_ex, dig24]
  show (⟨#[49, 48, 46, 48, 46, 48, 46, 48]⟩ : ByteArray) ++ ⟨#[47]⟩ ++ ⟨#[50, 52]⟩ = ⟨#[49, 48, 46, 48, 46, 48, 46, 48, 47, 50, 52]⟩
  kernel_rfl
theorem rng_ex : ∀ i ∈ List.range 4, 0 ≤ by4 167772160 i ∧ by4 167772160 i < 100 := by
  intro i hi
  rw [List.mem_range] at hi
  obtain ⟨e0, e1, e2, e3⟩ := by4_ex
  match i, hi with
  | 0, _ => omega
  | 1, _ => omega
  | 2, _ => omega
  | 3, _ => omega
theorem fst_ex : fstN 4 0 167772160 0 167772415 = 24 := by kernel_rfl
def SSpanEx : List V → Option Res
  | [.int .u8 4, .agg [.int .u64 0, .int .u64 167772160, .int .u64 0, .int .u64 167772415]] => some ⟨.tup [.str ex24, .int .i64 0], []⟩
  | _ => none
def M_f41 : Md := fun i => if i = 5 then some #[0, 1, 0, 4, 15] else some #[]
@[simp] theorem M_f41_eq {i : Nat} : M_f41 i = (if i = 5 then some #[0, 1, 0, 4, 15] else some #[]) := rfl
theorem runs_span_Text_ex : ∀ args r, SSpanEx args = some r → Runs Tryd.prog 41 args r := by
  intro args r hh
  unfold SSpanEx at hh
  split at hh
  · cases hh
    have hcS : chkS 4 0 167772160 0 167772415 = 0 := by kernel_rfl
    have hs1 : SChkS [.int .u8 4, .agg [.int .u64 0, .int .u64 167772160, .int .u64 0, .int .u64 167772415]] = some ⟨.int .i64 0, []⟩ := by
      simp only [SChkS, hcS]
    have hs2 : SFirst [.agg [.int .u8 4, .int .u64 0, .int .u64 167772160, .int .u64 0, .int .u64 167772415]] = some ⟨.agg [.int .u8 4, .int .u64 0, .int .u64 167772160, .int .i64 24], []⟩ := by
      simp only [SFirst]
      rw [if_pos ⟨by decide, by decide, hcS⟩, fst_ex]
      rfl
    have hl : lastA 0 167772160 (kw 4 - (24 : Int).toNat) = (0, 167772415) := by kernel_rfl
    have hs3 : SLast [.agg [.int .u8 4, .int .u64 0, .int .u64 167772160, .int .i64 24]] = some ⟨.agg [.int .u64 0, .int .u64 167772415], []⟩ := by
      simp only [SLast]
      rw [if_pos ⟨by decide, by decide, by decide⟩, hl]
    have hs4 : STextP [.agg [.int .u8 4, .int .u64 0, .int .u64 167772160, .int .i64 24]] = some ⟨.tup [.str ex24, .int .i64 0], []⟩ := by
      simp only [STextP]
      rw [if_pos ⟨by kernel_rfl, trivial, trivial, by decide, by decide, by decide, rng_ex, by rw [txt4_ex]; decide, by rw [dig24]; decide⟩, txtP_ex]
    have hT : ((((T0.add 16 SChkS).add 72 SFirst).add 47 SLast).add 31 STextP).ok Tryd.prog := Tab.add_ok (Tab.add_ok (Tab.add_ok (Tab.add_ok (T0_ok _) runs_span_Check) runs_span_walk_first) runs_span_last) runs_number_Text
    refine Runs.of_body Tryd.func41 (by decide) rfl (by simp [Tryd.f41]) ?_
    refine W.of_WE hT mixed M_f41 _ (by kernel_rfl) ?_
    simp [Tryd.f41, hs1, hs2, hs3, hs4]
  · cases hh
def SLowA : List V → Option Res
  | [.int .u64 x] => some ⟨.agg [.int .u64 0, .int .u64 x], []⟩
  | _ => none
theorem runs_law02_addr : ∀ args r, SLowA args = some r → Runs Tryd.prog 44 args r := by
  intro args r hh
  unfold SLowA at hh
  split at hh
  · cases hh
    refine Runs.of_body Tryd.func44 (by decide) rfl (by simp [Tryd.f44]) ?_
    refine W.of_WE (T0_ok _) mixed M0 _ (by kernel_rfl) ?_
    simp [Tryd.f44]
  · cases hh

end Go.Proofs.YtpcblologcindaaDoor.AL
namespace Go.Proofs.YtpcblologcindaaDoor.AL
open Go
attribute [local simp] qf cv qbin ibin sbin qun retPost rvOk ctV ctPost marksOk retV resAll resOf V.lt ltL V.ren renL V.exp cleanL V.clean closedL V.closed V.cells V.one V.tree
  loadV cellsAt slNew ownRows ownCells V.isOwn slStore srcO qlook mlook mget mstr zval qnone qmake mput lmap isAggD placesOf fillV putCells lstore bound seqParts V.sh shL Blk.sh newV V.ok peqs peq srcRows appOk mmV mmR hidE V.fz fzL Blk.fz fzOk and_assoc
attribute [-simp] Int.not_le Int.not_lt Nat.not_le Nat.not_lt
def exRows : List (List V) := [[.int .u8 4, .int .u64 0, .int .u64 167772161, .int .i64 32], [.int .u8 4, .int .u64 0, .int .u64 167772162, .int .i64 31], [.int .u8 4, .int .u64 0, .int .u64 167772164, .int .i64 31], [.int .u8 4, .int .u64 0, .int .u64 167772166, .int .i64 32]]
theorem rows_ex : wRows 4 (numA (0, 167772161)) (numA (0, 167772166)) (widN 4) 0 = exRows := by kernel_rfl
def SAlive2 : List V → Option Res
  | [] => some ⟨.bool true, []⟩
  | _ => none
def M_f14 : Md := fun i => if i = 9 then some #[0, 0, 3, 7, 0, 0, 48, 112, 255] else some #[]
@[simp] theorem M_f14_eq {i : Nat} : M_f14 i = (if i = 9 then some #[0, 0, 3, 7, 0, 0, 48, 112, 255] else some #[]) := rfl
theorem runs_alive2 : ∀ args r, SAlive2 args = some r → Runs Tryd.prog 14 args r := by
  intro args r hh
  unfold SAlive2 at hh
  split at hh
  · cases hh
    have hcS : chkS 4 0 167772161 0 167772166 = 0 := by kernel_rfl
    have hp : SPre [.int .u8 4, .agg [.int .u64 0, .int .u64 167772161, .int .u64 0, .int .u64 167772166]] = some ⟨.tup [.own 0, .int .i64 0], [.sl 4 40 exRows]⟩ := by
      simp only [SPre]
      rw [if_pos ⟨by decide, by decide⟩, if_pos hcS, rows_ex]
    have hex : ex24.toList = [49, 48, 46, 48, 46, 48, 46, 48, 47, 50, 52] := by kernel_rfl
    have hT : (((T0.add 44 SLowA).add 15 SPre).add 41 SSpanEx).ok Tryd.prog := Tab.add_ok (Tab.add_ok (Tab.add_ok (T0_ok _) runs_law02_addr) runs_span_Prefixes) runs_span_Text_ex
    refine Runs.of_body Tryd.func14 (by decide) rfl (by simp [Tryd.f14]) ?_
    refine W.seqE hT mixed M_f14 (by kernel_rfl) ?_
    simp [Tryd.f14]
    refine W.seqE hT mixed M_f14 (by kernel_rfl) ?_
    simp [Tryd.f14, SLowA, hp]
    refine W.seqE hT mixed M_f14 (by kernel_rfl) ?_
    simp [Tryd.f14, SLowA, SSpanEx]
    refine W.seqE hT mixed M_f14 (by kernel_rfl) ?_
    simp [Tryd.f14, hex, exRows]
    refine W.seqE hT mixed M_f14 (by kernel_rfl) ?_
    simp [Tryd.f14, SLowA]
    refine W.cut True [] [] 60 ?_ ?_
    · refine W.seqE hT mixed M_f14 (by kernel_rfl) ?_
      simp [Tryd.f14]
      refine W.block (W.for (fun k => True) (fun k => [(1, .own 0), (5, .own 1), (6, .int .i64 k)]) (fun _ => [.sl 4 40 exRows, .sl 4 40 exRows]) 60 4 trivial ?_ ?_)
      · simp [exRows]
      · intro k hk _
        refine W.of_WE hT mixed M_f14 _ (by kernel_rfl) ?_
        match k, hk with
        | 0, _ => simp [exRows]; rfl
        | 1, _ => simp [exRows]; rfl
        | 2, _ => simp [exRows]; rfl
        | 3, _ => simp [exRows]; rfl
        | 4, _ => simp [exRows]
    · intro _
      refine W.of_WE hT mixed M_f14 _ (by kernel_rfl) ?_
      simp [Tryd.f14]
  · cases hh

end Go.Proofs.YtpcblologcindaaDoor.AL
namespace Go.Proofs.YtpcblologcindaaDoor.AL
open Go
/-! Steps between addresses. -/
theorem cAddr_lt {f h l : Int} (hf : f = 4 ∨ f = 6) (hA : inA h l) (hlt : numA (h, l) < 2 ^ widN f) : cAddr f h l = true := by
  obtain ⟨h0, h1, l0, l1⟩ := hA
  rcases hf with rfl | rfl
  · have hlt : h * 18446744073709551616 + l < 4294967296 := hlt
    have : h = 0 := by omega
    subst this
    unfold cAddr
    simp
    omega
  · rfl
theorem nextA_no {f h l : Int} (hc : cAddr f h l = false) : nextA f h l = (0, 0, false) := by
  unfold nextA
  simp [hc]
theorem pair_eq {a b c d : Int} (h1 : inA a b) (h2 : inA c d) (h : numA (a, b) = numA (c, d)) : a = c ∧ b = d := by
  have := numA_inj (p := (a, b)) (q := (c, d)) ⟨h1.2.2.1, h1.2.2.2⟩ ⟨h2.2.2.1, h2.2.2.2⟩ h
  simpa using this
/-- Next, and back. -/
theorem next_back {f h l : Int} (hA : inA h l) :
    (∃ x y, nextA f h l = (x, y, true) ∧ inA x y ∧ prevA x y = (h, l, true) ∧ cmpA h l x y = -1 ∧ cAddr f x y = true) ∨ nextA f h l = (0, 0, false) := by
  cases hc : cAddr f h l
  · exact .inr (nextA_no hc)
  · have hn := nextA_num hA hc
    rcases ltge (numA (h, l) + 1) (2 ^ widN f) with g | g
    · left
      obtain ⟨x, y, e1, e2, e3⟩ := hn.1 g
      have h0 := (numA_lt hA hc).1
      obtain ⟨u, v, q1, q2, q3⟩ := (prevA_num e3).1 (by omega)
      obtain ⟨rfl, rfl⟩ := pair_eq q3 hA (by omega)
      refine ⟨x, y, e1, e3, q1, ?_, cAddr_lt (cAddr_46 hc) e3 (by omega)⟩
      have hlt : cmpA u v x y < 0 := (cmpA_lt hA e3).2 (by omega)
      unfold cmpA at hlt ⊢
      split
      · rename_i c; rw [if_pos c] at hlt; omega
      · rename_i c
        rw [if_neg c] at hlt
        split
        · rfl
        · rename_i d; rw [if_neg d] at hlt; omega
    · exact .inr (hn.2 g)
theorem cut_num' {h l : Int} (hA : inA h l) (k : Nat) : numA ((cutA h l k).1, (cutA h l k).2) = numA (h, l) / 2 ^ k * 2 ^ k := cutA_num hA.2.2.1 hA.2.2.2 k
theorem last_num' {h l : Int} (hA : inA h l) (k : Nat) : numA ((lastA h l k).1, (lastA h l k).2) = numA (h, l) / 2 ^ k * 2 ^ k + (2 ^ k - 1) := lastA_num hA.2.2.1 hA.2.2.2 k
theorem chkP_mk {f h l : Int} {j : Nat} (hA : inA h l) (hc : cAddr f h l = true) (hj : j ≤ widN f) (q : Int) (hq : numA (h, l) = q * 2 ^ (widN f - j)) : chkP f h l (j : Int) = 0 := by
  have hf := cAddr_46 hc
  have hw : widN f ≠ 0 := by rcases hf with rfl | rfl <;> decide
  unfold chkP
  rw [if_neg hw, if_pos ⟨hc, by omega, by omega⟩, if_pos]
  rw [Int.toNat_natCast]
  have hp := ipow_pos (widN f - j)
  have hn := cut_num' hA (widN f - j)
  rw [hq, Int.mul_ediv_cancel _ (by omega), ← hq] at hn
  obtain ⟨e1, e2⟩ := pair_eq (cutA_rng hA _) hA hn
  exact Prod.ext e1 e2
/-- The two halves of a prefix. -/
theorem halves {f h l n : Int} (hA : inA h l) (hc : chkP f h l n = 0) : ∃ j : Nat, n = j ∧ j ≤ widN f ∧ widN f ≤ 128 ∧ cAddr f h l = true ∧ inA (lastA h l (widN f - j)).1 (lastA h l (widN f - j)).2 ∧
    ((j = widN f ∧ lastA h l (widN f - j) = (h, l)) ∨ (j < widN f ∧ cAddr f (lastA h l (widN f - j)).1 (lastA h l (widN f - j)).2 = true ∧ cutA h l (widN f - (j + 1)) = (h, l) ∧ chkP f h l ((j + 1 : Nat) : Int) = 0 ∧ inA (lastA h l (widN f - (j + 1))).1 (lastA h l (widN f - (j + 1))).2 ∧
      ∃ a b, inA a b ∧ cutA (lastA h l (widN f - j)).1 (lastA h l (widN f - j)).2 (widN f - (j + 1)) = (a, b) ∧ chkP f a b ((j + 1 : Nat) : Int) = 0 ∧ nextA f (lastA h l (widN f - (j + 1))).1 (lastA h l (widN f - (j + 1))).2 = (a, b, true) ∧ lastA a b (widN f - (j + 1)) = lastA h l (widN f - j))) := by
  obtain ⟨j, rfl, hj, hca, hcut⟩ := chk_zero hc
  have hf := cAddr_46 hca
  have hw := widN_le f
  have hL := lastA_rng (k := widN f - j) hA (by omega)
  refine ⟨j, rfl, hj, hw, hca, hL, ?_⟩
  rcases Nat.lt_or_ge j (widN f) with hlt | hge
  · right
    obtain ⟨m, hm⟩ : ∃ m, widN f - (j + 1) = m := ⟨_, rfl⟩
    have hm1 : widN f - j = m + 1 := by omega
    rw [hm]
    rw [hm1] at hcut hL ⊢
    have hp := ipow_pos m
    have hps := ipow_succ m
    have hN := cut_num' hA (m + 1)
    rw [hcut] at hN
    obtain ⟨q, hq⟩ : ∃ q, numA (h, l) = q * 2 ^ (m + 1) := ⟨_, hN⟩
    have hq2 : numA (h, l) = (2 * q) * 2 ^ m := by rw [hq, hps]; rw [Int.mul_comm (2 ^ m) 2, ← Int.mul_assoc, Int.mul_comm q 2]
    have hNlt := numA_lt hA hca
    have hw2 : (2 : Int) ^ widN f = 2 ^ j * 2 ^ (m + 1) := by rw [← ipow_add]; congr 1; omega
    have hqlt : q < 2 ^ j := by
      rcases Int.lt_or_le q (2 ^ j) with g | g
      · exact g
      · have := Int.mul_le_mul_of_nonneg_right g (show (0 : Int) ≤ 2 ^ (m + 1) by omega)
        rw [← hq, ← hw2] at this
        omega
    have hup : (q + 1) * 2 ^ (m + 1) ≤ 2 ^ widN f := by
      rw [hw2]
      exact Int.mul_le_mul_of_nonneg_right (by omega) (by omega)
    rw [Int.add_mul, Int.one_mul, ← hq] at hup
    have e1 := last_num' hA (m + 1)
    rw [hq, Int.mul_ediv_cancel _ (by omega), ← hq] at e1
    have e2 := last_num' hA m
    rw [hq2, Int.mul_ediv_cancel _ (by omega), ← hq2] at e2
    have hLm := lastA_rng (k := m) hA (by omega)
    generalize hLe : lastA h l (m + 1) = L at *
    generalize hMe : lastA h l m = M at *
    obtain ⟨L1, L2⟩ := L
    obtain ⟨M1, M2⟩ := M
    simp only at e1 e2 hL hLm ⊢
    have hcL : cAddr f L1 L2 = true := cAddr_lt hf hL (by omega)
    have hcM : cAddr f M1 M2 = true := cAddr_lt hf hLm (by omega)
    have hcutm : cutA h l m = (h, l) := by
      have := cut_num' hA m
      rw [hq2, Int.mul_ediv_cancel _ (by omega), ← hq2] at this
      obtain ⟨g1, g2⟩ := pair_eq (cutA_rng hA _) hA this
      exact Prod.ext g1 g2
    obtain ⟨a, b, ea, eb, ec⟩ := (nextA_num hLm hcM).1 (by omega)
    have hab : numA (a, b) = (2 * q + 1) * 2 ^ m := by
      rw [eb, e2, Int.add_mul, Int.one_mul, ← hq2]; omega
    have hcA : cAddr f a b = true := cAddr_lt hf ec (by omega)
    refine ⟨hlt, hcL, hcutm, chkP_mk hA hca (by omega) (2 * q) (by rw [hm]; exact hq2), hLm, a, b, ec, ?_, chkP_mk ec hcA (by omega) (2 * q + 1) (by rw [hm]; exact hab), ea, ?_⟩
    · have := cut_num' hL m
      have hdiv : numA (L1, L2) / 2 ^ m = 2 * q + 1 := by
        have : numA (L1, L2) = (2 ^ m - 1) + (2 * q + 1) * 2 ^ m := by
          rw [e1, Int.add_mul, Int.one_mul, ← hq2]; omega
        rw [this, Int.add_mul_ediv_right _ _ (by omega), Int.ediv_eq_zero_of_lt (by omega) (by omega)]
        omega
      rw [hdiv, ← hab] at this
      obtain ⟨g1, g2⟩ := pair_eq (cutA_rng hL _) ec this
      exact Prod.ext g1 g2
    · have := last_num' ec m
      rw [hab, Int.mul_ediv_cancel _ (by omega), ← hab] at this
      obtain ⟨g1, g2⟩ := pair_eq (lastA_rng (k := m) ec (by omega)) hL (by omega)
      exact Prod.ext g1 g2
  · left
    have : j = widN f := by omega
    refine ⟨this, ?_⟩
    rw [this, Nat.sub_self, last0]
end Go.Proofs.YtpcblologcindaaDoor.AL
namespace Go.Proofs.YtpcblologcindaaDoor.AL
open Go
attribute [local simp] qf cv qbin ibin sbin qun retPost rvOk ctV ctPost marksOk retV resAll resOf V.lt ltL V.ren renL V.exp cleanL V.clean closedL V.closed V.cells V.one V.tree
  loadV cellsAt slNew ownRows ownCells V.isOwn slStore srcO qlook mlook mget mstr zval qnone qmake mput lmap isAggD placesOf fillV putCells lstore bound seqParts V.sh shL Blk.sh newV V.ok peqs peq srcRows appOk mmV mmR hidE V.fz fzL Blk.fz fzOk and_assoc
attribute [-simp] Int.not_le Int.not_lt Nat.not_le Nat.not_lt
def M_f5 : Md := fun i => some #[]
@[simp] theorem M_f5_eq {i : Nat} : M_f5 i = (some #[]) := rfl
theorem spanSteps_runs : ∀ As, ArgsV Tryd.prog Tryd.f5.params.toList [[.int .u8], [.int .u64, .int .u64], [.int .u8, .int .u64, .int .u64, .int .i64]] As → Runs Tryd.prog 5 As ⟨.bool true, []⟩ := by
  intro As h
  simp [Tryd.f5, ArgsV, LSh, VSh, argV] at h
  obtain ⟨_, _, rfl, ⟨_, rfl, f, rfl, hf⟩, _, _, rfl, ⟨_, _, rfl, ⟨ah, rfl, hah⟩, _, rfl, al, rfl, hal⟩,
    _, rfl, _, _, rfl, ⟨pf, rfl, hpf⟩, _, _, rfl, ⟨ph, rfl, hph⟩, _, _, rfl, ⟨pl, rfl, hpl⟩, _, rfl, pn, rfl, hpn⟩ := h
  have ia : inA ah al := ⟨(u64_rng hah).1, (u64_rng hah).2, (u64_rng hal).1, (u64_rng hal).2⟩
  have ip : inA ph pl := ⟨(u64_rng hph).1, (u64_rng hph).2, (u64_rng hpl).1, (u64_rng hpl).2⟩
  let T := (((((((T0.add 14 SAlive2).add 23 SNext).add 24 SPrev).add 18 SCompare).add 17 SAddr).add 20 SOf).add 25 SCheck).add 21 SCut
  have hT : T.ok Tryd.prog := Tab.add_ok (Tab.add_ok (Tab.add_ok (Tab.add_ok (Tab.add_ok (Tab.add_ok (Tab.add_ok (Tab.add_ok (T0_ok _) runs_alive2) runs_span_Next) runs_span_Prev) runs_number_Compare) runs_number_CheckAddr) runs_span_Of) runs_number_Check) runs_number_Cut
  have hal2 : SAlive2 [] = some ⟨.bool true, []⟩ := rfl
  refine Runs.of_body Tryd.func5 (by decide) rfl (by simp [Tryd.f5]) ?_
  obtain ⟨nx, hnx⟩ : ∃ r, r = nextA f ah al := ⟨_, rfl⟩
  have h1 : SNext [.int .u8 f, .agg [.int .u64 ah, .int .u64 al]] = some ⟨.tup [.agg [.int .u64 nx.1, .int .u64 nx.2.1], .bool nx.2.2], []⟩ := by
    simp only [SNext]; rw [if_pos ia, hnx]
  obtain ⟨x, y, t⟩ := nx
  simp only at h1
  refine W.seqE hT mixed M_f5 (by kernel_rfl) ?_
  simp [Tryd.f5]
  refine W.seqE hT mixed M_f5 (by kernel_rfl) ?_
  simp [Tryd.f5, T, hal2]
  refine W.seqE hT mixed M_f5 (by kernel_rfl) ?_
  simp [Tryd.f5, T, h1]
  refine W.seqE hT mixed M_f5 (by kernel_rfl) ?_
  simp [Tryd.f5]
  refine W.cut True [(5, .ptr 0 0), (7, .bool true)] [.box 40 [.int .u8 pf, .int .u64 ph, .int .u64 pl, .int .i64 pn]] 162 ?_ ?_
  · refine W.of_WE hT mixed M_f5 _ (by kernel_rfl) ?_
    rcases next_back (f := f) ia with ⟨x', y', e, ixy, ep, ec, eca⟩ | e
    · rw [e, Prod.mk.injEq, Prod.mk.injEq] at hnx
      obtain ⟨rfl, rfl, rfl⟩ := hnx
      have h2 : SPrev [.agg [.int .u64 x, .int .u64 y]] = some ⟨.tup [.agg [.int .u64 ah, .int .u64 al], .bool true], []⟩ := by
        simp only [SPrev]; rw [if_pos ixy, ep]
      have h3 : SCompare [.agg [.int .u64 ah, .int .u64 al], .agg [.int .u64 x, .int .u64 y]] = some ⟨.int .i64 (-1), []⟩ := by
        simp only [SCompare, ec]
      have h4 : SAddr [.int .u8 f, .agg [.int .u64 x, .int .u64 y]] = some ⟨.bool true, []⟩ := by
        simp [SAddr, eca]
      simp [Tryd.f5, T, h2, h3, h4]
    · rw [e, Prod.mk.injEq, Prod.mk.injEq] at hnx
      obtain ⟨rfl, rfl, rfl⟩ := hnx
      simp [Tryd.f5, T]
  · intro _
    refine W.of_WE hT mixed M_f5 _ (by kernel_rfl) ?_
    clear hnx h1
    by_cases hc : chkP pf ph pl pn = 0
    · obtain ⟨j, rfl, hj, hw, hca, hL, hcase⟩ := halves ip hc
      have hw1 : IntKind.i64.wrap ((j : Int) + 1) = j + 1 := wr_i64 (by omega) (by omega)
      have h5 : SOf [.agg [.int .u8 pf, .int .u64 ph, .int .u64 pl, .int .i64 j]] = some ⟨.tup [.agg [.int .u64 ph, .int .u64 pl, .int .u64 (lastA ph pl (widN pf - j)).1, .int .u64 (lastA ph pl (widN pf - j)).2], .int .i64 0], []⟩ := by
        simp only [SOf]; rw [if_pos ip, if_pos hc, Int.toNat_natCast]
      rcases hcase with ⟨rfl, e⟩ | ⟨hlt, hcL, e1, e2, hLm, a, b, iab, e3, e4, e5, e6⟩
      · rw [e] at h5
        have h6 : SCut [.int .u8 pf, .agg [.int .u64 ph, .int .u64 pl], .int .i64 ((widN pf : Int) + 1)] = some ⟨.tup [.agg [.int .u8 0, .int .u64 0, .int .u64 0, .int .i64 0], .int .i64 2], []⟩ := by
          simp only [SCut]; rw [if_pos ip, if_neg (by omega)]
        generalize widN pf = n at *
        simp [Tryd.f5, T, h5, h6, hw1]
      · generalize hLe : lastA ph pl (widN pf - j) = L at *
        generalize hMe : lastA ph pl (widN pf - (j + 1)) = M at *
        obtain ⟨L1, L2⟩ := L
        obtain ⟨M1, M2⟩ := M
        simp only at hL hLm h5 e3 e4 e5 e6
        have h6 : SCut [.int .u8 pf, .agg [.int .u64 ph, .int .u64 pl], .int .i64 ((j : Int) + 1)] = some ⟨.tup [.agg [.int .u8 pf, .int .u64 ph, .int .u64 pl, .int .i64 ((j : Int) + 1)], .int .i64 0], []⟩ := by
          simp only [SCut]; rw [if_pos ip, if_pos ⟨hca, by omega, by omega⟩, show ((j : Int) + 1).toNat = j + 1 by omega, e1]
        have h7 : SCut [.int .u8 pf, .agg [.int .u64 L1, .int .u64 L2], .int .i64 ((j : Int) + 1)] = some ⟨.tup [.agg [.int .u8 pf, .int .u64 a, .int .u64 b, .int .i64 ((j : Int) + 1)], .int .i64 0], []⟩ := by
          simp only [SCut]; rw [if_pos hL, if_pos ⟨hcL, by omega, by omega⟩, show ((j : Int) + 1).toNat = j + 1 by omega, e3]
        have h8 : SOf [.agg [.int .u8 pf, .int .u64 ph, .int .u64 pl, .int .i64 ((j : Int) + 1)]] = some ⟨.tup [.agg [.int .u64 ph, .int .u64 pl, .int .u64 M1, .int .u64 M2], .int .i64 0], []⟩ := by
          simp only [SOf]; rw [if_pos ip, if_pos (by exact_mod_cast e2), show ((j : Int) + 1).toNat = j + 1 by omega, hMe]
        have h9 : SOf [.agg [.int .u8 pf, .int .u64 a, .int .u64 b, .int .i64 ((j : Int) + 1)]] = some ⟨.tup [.agg [.int .u64 a, .int .u64 b, .int .u64 L1, .int .u64 L2], .int .i64 0], []⟩ := by
          simp only [SOf]; rw [if_pos iab, if_pos (by exact_mod_cast e4), show ((j : Int) + 1).toNat = j + 1 by omega, e6]
        have h10 : SNext [.int .u8 pf, .agg [.int .u64 M1, .int .u64 M2]] = some ⟨.tup [.agg [.int .u64 a, .int .u64 b], .bool true], []⟩ := by
          simp only [SNext]; rw [if_pos hLm, e5]
        simp [Tryd.f5, T, h5, h6, h7, h8, h9, h10, hw1]
    · have h5 : SOf [.agg [.int .u8 pf, .int .u64 ph, .int .u64 pl, .int .i64 pn]] = some ⟨.tup [.agg [.int .u64 0, .int .u64 0, .int .u64 0, .int .u64 0], .int .i64 (chkP pf ph pl pn)], []⟩ := by
        simp only [SOf]; rw [if_pos ip, if_neg hc]
      have h6 : SCheck [.agg [.int .u8 pf, .int .u64 ph, .int .u64 pl, .int .i64 pn]] = some ⟨.int .i64 (chkP pf ph pl pn), []⟩ := by
        simp only [SCheck]; rw [if_pos ip]
      simp [Tryd.f5, T, h5, h6, hc]

end Go.Proofs.YtpcblologcindaaDoor.AL
namespace Go.Proofs.YtpcblologcindaaDoor.AL
open Go
/-! How many prefixes, and which cover an address. -/
theorem wthN_lenR2 {a b : Int} : ∀ {k : Nat} {N : Int}, N + 2 ^ k - 1 ≤ b → (wthN a b k N).length ≤ max 1 k
  | 0, N, h => by rw [wthN]; split <;> simp
  | k + 1, N, h => by
    have e := ipow_succ k
    have hp := ipow_pos k
    by_cases ha : a ≤ N
    · rw [wthN_in ha h]; simp
    · rw [wthN_halves (fun g => ha g.1), List.length_append]
      have h1 := wthN_lenR2 (a := a) (b := b) (k := k) (N := N) (by omega)
      have h2 := wthN_lenR2 (a := a) (b := b) (k := k) (N := N + 2 ^ k) (by omega)
      by_cases hm : N + 2 ^ k - 1 < a
      · rw [wthN_out (.inl hm)]
        simp only [List.length_nil]
        omega
      · rw [wthN_in (k := k) (N := N + 2 ^ k) (by omega) (by omega)]
        simp only [List.length_cons, List.length_nil]
        cases k with
        | zero => simp at hm; omega
        | succ k => omega
theorem wthN_lenL2 {a b : Int} : ∀ {k : Nat} {N : Int}, a ≤ N → (wthN a b k N).length ≤ max 1 k
  | 0, N, h => by rw [wthN]; split <;> simp
  | k + 1, N, h => by
    have e := ipow_succ k
    have hp := ipow_pos k
    by_cases hb : N + 2 ^ (k + 1) - 1 ≤ b
    · rw [wthN_in h hb]; simp
    · rw [wthN_halves (fun g => hb g.2), List.length_append]
      have h1 := wthN_lenL2 (a := a) (b := b) (k := k) (N := N) h
      have h2 := wthN_lenL2 (a := a) (b := b) (k := k) (N := N + 2 ^ k) (by omega)
      by_cases hm : b < N + 2 ^ k
      · rw [wthN_out (k := k) (N := N + 2 ^ k) (.inr hm)]
        simp only [List.length_nil]
        omega
      · rw [wthN_in (k := k) (N := N) h (by omega)]
        simp only [List.length_cons, List.length_nil]
        cases k with
        | zero => simp at hm hb; omega
        | succ k => omega
theorem wthN_len2 {a b : Int} : ∀ {k : Nat} {N : Int}, (wthN a b k N).length ≤ 2 * max 1 (k - 1)
  | 0, N => by rw [wthN]; split <;> simp
  | k + 1, N => by
    have e := ipow_succ k
    have hp := ipow_pos k
    by_cases hw : a ≤ N ∧ N + 2 ^ (k + 1) - 1 ≤ b
    · rw [wthN_in hw.1 hw.2]; simp; omega
    · rw [wthN_halves hw, List.length_append]
      have i1 := wthN_len2 (a := a) (b := b) (k := k) (N := N)
      have i2 := wthN_len2 (a := a) (b := b) (k := k) (N := N + 2 ^ k)
      by_cases h1 : b < N + 2 ^ k
      · rw [wthN_out (k := k) (N := N + 2 ^ k) (.inr h1)]
        simp only [List.length_nil]
        omega
      · by_cases h2 : N + 2 ^ k - 1 < a
        · rw [wthN_out (k := k) (N := N) (.inl h2)]
          simp only [List.length_nil]
          omega
        · have j1 := wthN_lenR2 (a := a) (b := b) (k := k) (N := N) (by omega)
          have j2 := wthN_lenL2 (a := a) (b := b) (k := k) (N := N + 2 ^ k) (by omega)
          omega
def covB (x : Int) (p : Int × Nat) : Bool := decide (p.1 ≤ x) && decide (x < p.1 + 2 ^ p.2)
theorem cov_out {a b x : Int} : ∀ {k : Nat} {N : Int}, (x < N ∨ N + 2 ^ k ≤ x) → (wthN a b k N).countP (covB x) = 0
  | 0, N, h => by
    simp at h
    rw [wthN]
    split
    · rfl
    · simp [covB]; omega
  | k + 1, N, h => by
    have e := ipow_succ k
    have hp := ipow_pos k
    by_cases hw : a ≤ N ∧ N + 2 ^ (k + 1) - 1 ≤ b
    · rw [wthN_in hw.1 hw.2]
      simp [covB]
      omega
    · rw [wthN_halves hw, List.countP_append, cov_out (k := k) (N := N) (by omega), cov_out (k := k) (N := N + 2 ^ k) (by omega)]
theorem cov_in {a b x : Int} : ∀ {k : Nat} {N : Int}, N ≤ x → x < N + 2 ^ k → (wthN a b k N).countP (covB x) = if a ≤ x ∧ x ≤ b then 1 else 0
  | 0, N, h1, h2 => by
    simp at h2
    obtain rfl : x = N := by omega
    rw [wthN]
    by_cases h : x < a ∨ b < x
    · rw [if_pos h, if_neg (by omega)]; rfl
    · rw [if_neg h, if_pos (by omega)]
      simp [covB]; omega
  | k + 1, N, h1, h2 => by
    have e := ipow_succ k
    have hp := ipow_pos k
    by_cases hw : a ≤ N ∧ N + 2 ^ (k + 1) - 1 ≤ b
    · rw [wthN_in hw.1 hw.2, if_pos (by omega)]
      have : covB x (N, k + 1) = true := by simp [covB]; omega
      simp [this]
    · rw [wthN_halves hw, List.countP_append]
      by_cases hm : x < N + 2 ^ k
      · rw [cov_in (k := k) (N := N) h1 hm, cov_out (k := k) (N := N + 2 ^ k) (.inl hm)]; omega
      · rw [cov_out (k := k) (N := N) (.inr (by omega)), cov_in (k := k) (N := N + 2 ^ k) (by omega) (by omega)]; omega
theorem wthN_blk {a b : Int} : ∀ {k : Nat} {N : Int}, (∃ q : Int, N = q * 2 ^ k) → ∀ p ∈ wthN a b k N, (∃ q : Int, p.1 = q * 2 ^ p.2) ∧ N ≤ p.1 ∧ p.1 + 2 ^ p.2 ≤ N + 2 ^ k ∧ p.2 ≤ k ∧ a ≤ p.1 ∧ p.1 + 2 ^ p.2 - 1 ≤ b
  | 0, N, hN, p, hp => by
    rw [wthN] at hp
    split at hp
    · cases hp
    · simp only [List.mem_singleton] at hp
      subst hp
      refine ⟨⟨N, by simp⟩, by omega, by simp, by omega, by omega, by simp; omega⟩
  | k + 1, N, hN, p, hp => by
    have e := ipow_succ k
    have hpk := ipow_pos k
    by_cases hw : a ≤ N ∧ N + 2 ^ (k + 1) - 1 ≤ b
    · rw [wthN_in hw.1 hw.2] at hp
      simp only [List.mem_singleton] at hp
      subst hp
      exact ⟨hN, by omega, by simp, by omega, hw.1, hw.2⟩
    · rw [wthN_halves hw] at hp
      obtain ⟨q, hq⟩ := hN
      rcases List.mem_append.1 hp with hp | hp
      · obtain ⟨g1, g2, g3, g4, g5⟩ := wthN_blk (k := k) (N := N) ⟨q * 2, by rw [hq, e, Int.mul_assoc, Int.mul_comm 2]⟩ p hp
        exact ⟨g1, g2, by omega, by omega, g5⟩
      · obtain ⟨g1, g2, g3, g4, g5⟩ := wthN_blk (k := k) (N := N + 2 ^ k) ⟨q * 2 + 1, by rw [hq, e, Int.add_mul, Int.one_mul, Int.mul_assoc, Int.mul_comm 2]⟩ p hp
        exact ⟨g1, by omega, by omega, by omega, g5⟩
def hostW (f : Int) : Int := if f = 6 then 128 else 32
theorem host_w {f : Int} (hf : f = 4 ∨ f = 6) : hostW f = (widN f : Int) := by rcases hf with rfl | rfl <;> rfl
/-- A prefix of the list covers an address if the address lies in its part. -/
theorem cov_row {f h l : Int} {p : Int × Nat} (hA : inA h l) (hc : cAddr f h l = true) (hq : ∃ q : Int, p.1 = q * 2 ^ p.2) (h0 : 0 ≤ p.1) (h1 : p.1 + 2 ^ p.2 ≤ 2 ^ widN f) (hk : p.2 ≤ widN f) :
    covP (rowW f p).f (rowW f p).h (rowW f p).l (rowW f p).n f h l (hostW f) = covB (numA (h, l)) p ∧ inA (rowW f p).h (rowW f p).l := by
  have hf := cAddr_46 hc
  have hw := widN_le f
  have hp := ipow_pos p.2
  have h128 : (2 : Int) ^ widN f ≤ 340282366920938463463374607431768211456 := by rcases hf with rfl | rfl <;> decide
  have hr : inA (toA p.1).1 (toA p.1).2 := toA_rng h0 (by omega)
  obtain ⟨N, k⟩ := p
  simp only at *
  obtain ⟨q, hq⟩ := hq
  have hnum : numA ((toA N).1, (toA N).2) = N := numA_toA N
  have hcr : cAddr f (toA N).1 (toA N).2 = true := cAddr_lt hf hr (by rw [hnum]; omega)
  have hsub : widN f - (widN f - k) = k := by omega
  have e1 : (widN f : Int) - (k : Int) = ((widN f - k : Nat) : Int) := by omega
  have hrow : chkP f (toA N).1 (toA N).2 ((widN f : Int) - (k : Int)) = 0 := by
    rw [e1]
    exact chkP_mk hr hcr (by omega) q (by rw [hnum, hsub]; exact hq)
  have hhost : chkP f h l (widN f : Int) = 0 := chkP_mk hA hc (Nat.le_refl _) (numA (h, l)) (by rw [Nat.sub_self]; simp)
  have hlt := numA_lt hA hc
  refine ⟨?_, hr⟩
  unfold covP rowW
  simp only
  rw [host_w hf, hrow, hhost]
  have e2 : ((widN f : Int) - (k : Int)).toNat = widN f - k := by omega
  rw [e2, hsub]
  have hle : (widN f : Int) - (k : Int) ≤ (widN f : Int) := by omega
  simp only [hle, decide_true, Bool.true_and]
  rw [Bool.eq_iff_iff, decide_eq_true_eq]
  unfold covB
  rw [Bool.and_eq_true, decide_eq_true_eq, decide_eq_true_eq]
  show _ ↔ N ≤ numA (h, l) ∧ numA (h, l) < N + 2 ^ k
  have hcn := cut_num' hA k
  constructor
  · intro hh
    rw [hh, hnum] at hcn
    have g1 := Int.ediv_mul_le (numA (h, l)) (show (2 : Int) ^ k ≠ 0 by omega)
    have g2 := Int.lt_ediv_add_one_mul_self (numA (h, l)) hp
    rw [Int.add_mul, Int.one_mul] at g2
    omega
  · rintro ⟨g1, g2⟩
    have hd : numA (h, l) / 2 ^ k = q := by
      have : numA (h, l) = (numA (h, l) - N) + q * 2 ^ k := by omega
      rw [this, Int.add_mul_ediv_right _ _ (by omega), Int.ediv_eq_zero_of_lt (by omega) (by omega)]
      omega
    rw [hd, ← hq] at hcn
    obtain ⟨e3, e4⟩ := pair_eq (cutA_rng hA _) hr (hcn.trans hnum.symm)
    exact Prod.ext e3 e4
theorem countP_rows {f h l a b : Int} (hA : inA h l) (hc : cAddr f h l = true) :
    (((wthN a b (widN f) 0).map (rowW f)).countP fun p => covP p.f p.h p.l p.n f h l (hostW f)) = (if a ≤ numA (h, l) ∧ numA (h, l) ≤ b then 1 else 0) ∧ ∀ p ∈ (wthN a b (widN f) 0).map (rowW f), inA p.h p.l := by
  have hlt := numA_lt hA hc
  have hb := wthN_blk (a := a) (b := b) (k := widN f) (N := 0) ⟨0, by simp⟩
  constructor
  · rw [List.countP_map, ← cov_in (a := a) (b := b) (k := widN f) (N := 0) hlt.1 (by omega)]
    refine List.countP_congr fun p hp => ?_
    obtain ⟨g1, g2, g3, g4, _⟩ := hb p hp
    have := (cov_row hA hc g1 g2 (by omega) g4).1
    simp only [Function.comp]
    rw [this]
  · intro p hp
    obtain ⟨q, hq, rfl⟩ := List.mem_map.1 hp
    obtain ⟨g1, g2, g3, g4, _⟩ := hb q hq
    exact (cov_row hA hc g1 g2 (by omega) g4).2
theorem wRows_map (f a b : Int) (k : Nat) (N : Int) : wRows f a b k N = ((wthN a b k N).map (rowW f)).map PF.row := by unfold wRows; rw [List.map_map]; rfl
theorem wRows_254 {f a b : Int} : (wRows f a b (widN f) 0).length ≤ 254 := by
  unfold wRows
  rw [List.length_map]
  have h1 := wthN_len2 (a := a) (b := b) (k := widN f) (N := 0)
  have h2 := widN_le f
  omega
end Go.Proofs.YtpcblologcindaaDoor.AL
namespace Go.Proofs.YtpcblologcindaaDoor.AL
open Go
attribute [local simp] qf cv qbin ibin sbin qun retPost rvOk ctV ctPost marksOk retV resAll resOf V.lt ltL V.ren renL V.exp cleanL V.clean closedL V.closed V.cells V.one V.tree
  loadV cellsAt slNew ownRows ownCells V.isOwn slStore srcO qlook mlook mget mstr zval qnone qmake mput lmap isAggD placesOf fillV putCells lstore bound seqParts V.sh shL Blk.sh newV V.ok peqs peq srcRows appOk mmV mmR hidE V.fz fzL Blk.fz fzOk and_assoc
attribute [-simp] Int.not_le Int.not_lt Nat.not_le Nat.not_lt
def SCovd : List V → Option Res
  | [.int .u8 f, .rd 4 rows, .agg [.int .u64 h, .int .u64 l]] => match pfsOf rows with
    | some ps => if (∀ p ∈ ps, inA p.h p.l) ∧ inA h l ∧ ps.length ≤ 100000 then some ⟨.int .i64 (ps.countP fun p => covP p.f p.h p.l p.n f h l (hostW f)), []⟩ else none
    | none => none
  | _ => none
theorem pf_rows_get {l : List PF} {k : Nat} (h : k < (l.map PF.row).length) : (l.map PF.row)[k] = (l[k]'(by simpa using h)).row := by simp
def M_f19 : Md := fun i => if i = 8 then some #[0, 0, 3, 7, 0, 0, 0, 112, 255] else some #[]
@[simp] theorem M_f19_eq {i : Nat} : M_f19 i = (if i = 8 then some #[0, 0, 3, 7, 0, 0, 0, 112, 255] else some #[]) := rfl
theorem runs_covered : ∀ args r, SCovd args = some r → Runs Tryd.prog 19 args r := by
  intro args r hh
  unfold SCovd at hh
  split at hh
  · rename_i f rows h l
    split at hh
    · rename_i ps hps
      split at hh
      · rename_i hin
        obtain ⟨hin, hA, hlen⟩ := hin
        cases hh
        have h1 := pfsOf_eq hps
        subst h1
        have hT : (T0.add 22 SCovers).ok Tryd.prog := Tab.add_ok (T0_ok _) runs_number_Covers
        refine Runs.of_body Tryd.func19 (by decide) rfl (by simp [Tryd.f19]) ?_
        refine W.seqE hT mixed M_f19 (by kernel_rfl) ?_
        simp [Tryd.f19]
        refine W.seqE hT mixed M_f19 (by kernel_rfl) ?_
        simp [Tryd.f19]
        refine W.cut True [(0, .int .u8 f), (1, .rd 4 (ps.map PF.row)), (5, .ptr 0 0), (7, .int .i64 (hostW f))] [.box 24 [.int .u64 h, .int .u64 l]] 30 ?_ ?_
        · refine W.of_WE hT mixed M_f19 _ (by kernel_rfl) ?_
          by_cases h6 : f = 6
          · simp [Tryd.f19, h6, hostW]
          · simp [Tryd.f19, h6, hostW]
        · intro _
          refine W.seqE hT mixed M_f19 (by kernel_rfl) ?_
          simp [Tryd.f19]
          refine W.cut True [(8, .int .i64 (ps.countP fun p => covP p.f p.h p.l p.n f h l (hostW f)))] [] 30 ?_ ?_
          · refine W.seqE hT mixed M_f19 (by kernel_rfl) ?_
            simp [Tryd.f19]
            refine W.block (W.for (fun k => True) (fun k => [(0, .int .u8 f), (1, .rd 4 (ps.map PF.row)), (5, .ptr 0 0), (7, .int .i64 (hostW f)), (8, .int .i64 ((ps.take k).countP fun p => covP p.f p.h p.l p.n f h l (hostW f))), (9, .int .i64 k)]) (fun k => [.box 24 [.int .u64 h, .int .u64 l]]) 30 ps.length trivial ?_ ?_)
            · simp
            · intro k hk _
              refine W.of_WE hT mixed M_f19 _ (by kernel_rfl) ?_
              by_cases hlt : k < ps.length
              · have hw1 : IntKind.i64.wrap ((k : Int) + 1) = k + 1 := wr_i64 (by omega) (by omega)
                have hp := hin ps[k] (List.getElem_mem hlt)
                have hsn : (ps.take (k + 1)).countP (fun p => covP p.f p.h p.l p.n f h l (hostW f)) = (ps.take k).countP (fun p => covP p.f p.h p.l p.n f h l (hostW f)) + (if covP ps[k].f ps[k].h ps[k].l ps[k].n f h l (hostW f) = true then 1 else 0) := by
                  rw [take_snoc' ps k hlt, List.countP_append, List.countP_cons, List.countP_nil]
                  simp
                have hle : (ps.take k).countP (fun p => covP p.f p.h p.l p.n f h l (hostW f)) ≤ 100000 := by
                  have := List.countP_le_length (p := fun p => covP p.f p.h p.l p.n f h l (hostW f)) (l := ps.take k)
                  simp at this
                  omega
                have hcv : SCovers [.agg [.int .u8 ps[k].f, .int .u64 ps[k].h, .int .u64 ps[k].l, .int .i64 ps[k].n], .agg [.int .u8 f, .int .u64 h, .int .u64 l, .int .i64 (hostW f)]] = some ⟨.bool (covP ps[k].f ps[k].h ps[k].l ps[k].n f h l (hostW f)), []⟩ := by
                  simp only [SCovers]
                  rw [if_pos ⟨hp, hA⟩]
                rw [hsn]
                generalize (ps.take k).countP (fun p => covP p.f p.h p.l p.n f h l (hostW f)) = n at *
                have hw2 : IntKind.i64.wrap ((n : Int) + 1) = n + 1 := wr_i64 (by omega) (by omega)
                cases hc : covP ps[k].f ps[k].h ps[k].l ps[k].n f h l (hostW f)
                · rw [hc] at hcv
                  simp [hlt, hcv, hw1, PF.row]
                · rw [hc] at hcv
                  simp [hlt, hcv, hw1, hw2, PF.row]
              · have : k = ps.length := by omega
                subst this
                simp
          · intro _
            refine W.of_WE hT mixed M_f19 _ (by kernel_rfl) ?_
            simp [Tryd.f19]
      · cases hh
    · cases hh
  · cases hh

end Go.Proofs.YtpcblologcindaaDoor.AL
