import Derived.Test.YtbnjijffkjcmcaaDoorQW8
import Derived.Test.YtbnjijffkjcmcaaDoorRows
/- What single functions compute: a part of the proof; no conditions. -/
set_option linter.unusedVariables false
set_option linter.unusedSimpArgs false
set_option maxRecDepth 100000
namespace Go.Proofs.YtbnjijffkjcmcaaDoor.AL
open Go
attribute [local simp] qf cv qbin ibin sbin qun retPost rvOk ctV ctPost marksOk retV resAll resOf V.lt ltL V.ren renL V.exp V.exp1 cleanL V.clean closedL V.closed V.cells V.one V.tree
  loadV cellsAt isNC nilQ isSlD isIfD slNew ownRows ownCells V.isOwn slStore srcO qlook mlook mget mstr zval qnone qmake mput lmap isAggD placesOf fillV putCells lstore bound seqParts V.sh shL Blk.sh newV V.ok peqs peq srcRows qbytes byteSl appOk mmV mmR hidE V.fz fzL Blk.fz fzOk and_assoc
attribute [-simp] Int.not_le Int.not_lt Nat.not_le Nat.not_lt
/-! The row's listed variables, and the world's shape, give what the walks lean on. -/
def laidAll : List (String × DataW Unit) := [("math/bits.deBruijn32tab", Go.Proofs.YtbnjijffkjcmcaaDoor.Rows.laid_math_bits_deBruijn32tab), ("math/bits.deBruijn64tab", Go.Proofs.YtbnjijffkjcmcaaDoor.Rows.laid_math_bits_deBruijn64tab), ("internal/strconv.uint64pow10", Go.Proofs.YtbnjijffkjcmcaaDoor.Rows.laid_internal_strconv_uint64pow10), ("unicode/utf8.acceptRanges", Go.Proofs.YtbnjijffkjcmcaaDoor.Rows.laid_unicode_utf8_acceptRanges), ("strconv.ErrRange", Go.Proofs.YtbnjijffkjcmcaaDoor.Rows.laid_strconv_ErrRange), ("strconv.ErrSyntax", Go.Proofs.YtbnjijffkjcmcaaDoor.Rows.laid_strconv_ErrSyntax), ("unicode/utf8.first", Go.Proofs.YtbnjijffkjcmcaaDoor.Rows.laid_unicode_utf8_first)]
theorem gokD (W : World) (h : laidMetH Tryd.prog laidAll W) (hs : W.ShapedOpen Tryd.prog) : GOK Tryd.prog ⟨W, fun _ => False, fun _ => undef, fun _ => False⟩ := by
  have h0 : laidMet Tryd.prog laidAll W := h
  have h1 := h0.tail
  have h2 := h1.tail
  have h3 := h2.tail
  have h4 := h3.tail
  have h5 := h4.tail
  have g5 : Tryd.prog.globalNamed "math/bits.deBruijn64tab" = some 5 := by kernel_rfl
  have g0 : Tryd.prog.globalNamed "internal/strconv.uint64pow10" = some 0 := by kernel_rfl
  have g2 : Tryd.prog.globalNamed "strconv.ErrSyntax" = some 2 := by kernel_rfl
  have g3 : Tryd.prog.globalNamed "strconv.ErrRange" = some 3 := by kernel_rfl
  have t5 : Lib.TabIs Tryd.prog W "math/bits.deBruijn64tab" .u8 [0, 1, 56, 2, 57, 49, 28, 3, 61, 58, 42, 50, 38, 29, 17, 4, 62, 47, 59, 36, 45, 43, 51, 22, 53, 39, 33, 30, 24, 18, 12, 5, 63, 55, 48, 27, 60, 41, 37, 16, 46, 35, 44, 21, 52, 32, 23, 11, 54, 26, 40, 15, 34, 20, 31, 10, 25, 14, 19, 9, 13, 8, 7, 6] :=
    Lib.tabIs_of_head (t := 184) (e := 5) (n := 64) g5 (by kernel_rfl) (by kernel_rfl) (by kernel_rfl) (by kernel_rfl) (by kernel_rfl) h1
  have t0 : Lib.TabIs Tryd.prog W "internal/strconv.uint64pow10" .u64 Lib.pow10Tab :=
    Lib.tabIs_of_head (t := 163) (e := 22) (n := 20) g0 (by kernel_rfl) (by kernel_rfl) (by kernel_rfl) (by kernel_rfl) (by kernel_rfl) h2
  have hrow : ∀ u, Tryd.prog.typeName? 3 u = some "*errors.errorString" → u = 180 := fun u hu => typeName_ptr_named (nm := "errors.errorString") (by rw [show "*" ++ "errors.errorString" = "*errors.errorString" by decide]; kernel_rfl) (by kernel_rfl) (by decide) u (by rw [show "*" ++ "errors.errorString" = "*errors.errorString" by decide]; exact hu)
  obtain ⟨a3, s3, v3, _⟩ := laid_sentinel (ti := 105) (tp := 180) (te := 182) (ts := 9) h4 g3 (by kernel_rfl) Tryd.underlying105 hrow (by kernel_rfl) Tryd.underlying182 rfl rfl (by kernel_rfl) (by kernel_rfl) (by kernel_rfl)
  obtain ⟨a2, s2, v2, _⟩ := laid_sentinel (ti := 105) (tp := 180) (te := 182) (ts := 9) h5 g2 (by kernel_rfl) Tryd.underlying105 hrow (by kernel_rfl) Tryd.underlying182 rfl rfl (by kernel_rfl) (by kernel_rfl) (by kernel_rfl)
  obtain ⟨m, hm⟩ := Go.Proofs.cell_of_shapedOpen_int (g := 1) (zero := #[.int .i64 0]) (t := 3) (k := .i64) hs (of_decide_eq_true (by kernel_rfl)) (by kernel_rfl) rfl (by kernel_rfl) (by kernel_rfl) (by kernel_rfl)
  have c3 := World.var?_cell g3 v3 0
  have c2 := World.var?_cell g2 v2 0
  refine ⟨fun g => ?_, fun g cs hg => ?_⟩
  · show R _ (gvT g) _
    unfold gvT
    split
    · rename_i e; subst e; exact rptr_of_tab t5 g5 (by simp)
    · split
      · rename_i e; subst e; exact rptr_one rfl hm rfl (by simp [R])
      · split
        · rename_i e; subst e; exact rptr_one rfl (by simpa using c2) rfl (by simp [R])
        · split
          · rename_i e; subst e; exact rptr_one rfl (by simpa using c3) rfl (by simp [R])
          · simp [R]
  · change gvL g = some cs at hg
    unfold gvL at hg
    split at hg
    · rename_i e
      subst e
      cases hg
      obtain ⟨k1, k2⟩ := lay_of_tab t0 g0
      exact ⟨fun h => h, k1, k2⟩
    · cases hg

end Go.Proofs.YtbnjijffkjcmcaaDoor.AL
