import Derived.Test.YtkcmgjagjbiinaaC21nW1
import Derived.Test.YtkcmgjagjbiinaaProg
/- What single functions compute: a part of the proof; no conditions. -/
set_option linter.unusedVariables false
set_option linter.unusedSimpArgs false
set_option maxRecDepth 100000
namespace Go.Proofs.Ytkcmgjagjbiinaa.AL
open Go
attribute [local simp] qf cv qbin ibin sbin qun retPost rvOk ctV ctPost marksOk retV resAll resOf V.lt ltL V.ren renL V.exp V.exp1 cleanL V.clean closedL V.closed V.cells V.one V.tree
  loadV cellsAt isNC nilQ isSlD isIfD slNew ownRows ownCells V.isOwn slStore srcO qlook mlook mget mstr zval qnone qmake mput lmap isAggD placesOf fillV putCells lstore bound seqParts V.sh shL Blk.sh newV V.ok peqs peq srcRows qbytes byteSl appOk mmV mmR hidE V.fz fzL Blk.fz fzOk and_assoc
attribute [-simp] Int.not_le Int.not_lt Nat.not_le Nat.not_lt
@[simp] theorem Try.cells1 : Try.prog.cellsOf 1 = 1 := by kernel_rfl
@[simp] theorem Try.bytes1 : Try.prog.bytesOf 1 = 8 := by kernel_rfl
@[simp] theorem Try.zc1 : zcells Try.prog 1 = some [.nilfn] := by kernel_rfl
@[simp] theorem Try.zl1 : zlen Try.prog 1 = 1 := by kernel_rfl
@[simp] theorem Try.cells2 : Try.prog.cellsOf 2 = 1 := by kernel_rfl
@[simp] theorem Try.bytes2 : Try.prog.bytesOf 2 = 8 := by kernel_rfl
@[simp] theorem Try.zc2 : zcells Try.prog 2 = some [.int .i64 0] := by kernel_rfl
@[simp] theorem Try.zl2 : zlen Try.prog 2 = 1 := by kernel_rfl
@[simp] theorem Try.cells3 : Try.prog.cellsOf 3 = 1 := by kernel_rfl
@[simp] theorem Try.bytes3 : Try.prog.bytesOf 3 = 8 := by kernel_rfl
@[simp] theorem Try.zc3 : zcells Try.prog 3 = some [.int .i64 0] := by kernel_rfl
@[simp] theorem Try.zl3 : zlen Try.prog 3 = 1 := by kernel_rfl
@[simp] theorem Try.cells4 : Try.prog.cellsOf 4 = 1 := by kernel_rfl
@[simp] theorem Try.bytes4 : Try.prog.bytesOf 4 = 1 := by kernel_rfl
@[simp] theorem Try.zc4 : zcells Try.prog 4 = some [.bool false] := by kernel_rfl
@[simp] theorem Try.zl4 : zlen Try.prog 4 = 1 := by kernel_rfl
@[simp] theorem Try.cells5 : Try.prog.cellsOf 5 = 1 := by kernel_rfl
@[simp] theorem Try.bytes5 : Try.prog.bytesOf 5 = 1 := by kernel_rfl
@[simp] theorem Try.zc5 : zcells Try.prog 5 = some [.int .u8 0] := by kernel_rfl
@[simp] theorem Try.zl5 : zlen Try.prog 5 = 1 := by kernel_rfl
@[simp] theorem Try.cells6 : Try.prog.cellsOf 6 = 1 := by kernel_rfl
@[simp] theorem Try.bytes6 : Try.prog.bytesOf 6 = 1 := by kernel_rfl
@[simp] theorem Try.zc6 : zcells Try.prog 6 = some [.int .u8 0] := by kernel_rfl
@[simp] theorem Try.zl6 : zlen Try.prog 6 = 1 := by kernel_rfl
@[simp] theorem Try.cells7 : Try.prog.cellsOf 7 = 4 := by kernel_rfl
@[simp] theorem Try.bytes7 : Try.prog.bytesOf 7 = 24 := by kernel_rfl
@[simp] theorem Try.zc7 : zcells Try.prog 7 = some [.int .i64 0, .int .i64 0, .bool false, .int .u8 0] := by kernel_rfl
@[simp] theorem Try.zl7 : zlen Try.prog 7 = 4 := by kernel_rfl
@[simp] theorem Try.eqa7 (x0 y0 : Int) (x1 y1 : Int) (x2 y2 : Bool) (x3 y3 : Int) : EqA Try.prog 7 [.int .i64 x0, .int .i64 x1, .bool x2, .int .u8 x3] [.int .i64 y0, .int .i64 y1, .bool y2, .int .u8 y3] :=
  EqA_of (l := [.int .i64, .int .i64, .bool, .int .u8]) 6 (by kernel_rfl) (by kernel_rfl) (by kernel_rfl) (by kernel_rfl) (by omega) (by simp [LSS, SSh]) (by simp [LSS, SSh])
@[simp] theorem Try.cells8 : Try.prog.cellsOf 8 = 4 := by kernel_rfl
@[simp] theorem Try.bytes8 : Try.prog.bytesOf 8 = 24 := by kernel_rfl
@[simp] theorem Try.zc8 : zcells Try.prog 8 = some [.int .i64 0, .int .i64 0, .bool false, .int .u8 0] := by kernel_rfl
@[simp] theorem Try.zl8 : zlen Try.prog 8 = 4 := by kernel_rfl
@[simp] theorem Try.eqa8 (x0 y0 : Int) (x1 y1 : Int) (x2 y2 : Bool) (x3 y3 : Int) : EqA Try.prog 8 [.int .i64 x0, .int .i64 x1, .bool x2, .int .u8 x3] [.int .i64 y0, .int .i64 y1, .bool y2, .int .u8 y3] :=
  EqA_of (l := [.int .i64, .int .i64, .bool, .int .u8]) 6 (by kernel_rfl) (by kernel_rfl) (by kernel_rfl) (by kernel_rfl) (by omega) (by simp [LSS, SSh]) (by simp [LSS, SSh])
@[simp] theorem Try.cells9 : Try.prog.cellsOf 9 = 1 := by kernel_rfl
@[simp] theorem Try.bytes9 : Try.prog.bytesOf 9 = 16 := by kernel_rfl
@[simp] theorem Try.zc9 : zcells Try.prog 9 = some [.str ByteArray.empty] := by kernel_rfl
@[simp] theorem Try.zl9 : zlen Try.prog 9 = 1 := by kernel_rfl
@[simp] theorem Try.cells10 : Try.prog.cellsOf 10 = 1 := by kernel_rfl
@[simp] theorem Try.bytes10 : Try.prog.bytesOf 10 = 16 := by kernel_rfl
@[simp] theorem Try.zc10 : zcells Try.prog 10 = some [.str ByteArray.empty] := by kernel_rfl
@[simp] theorem Try.zl10 : zlen Try.prog 10 = 1 := by kernel_rfl
@[simp] theorem Try.cells11 : Try.prog.cellsOf 11 = 1 := by kernel_rfl
@[simp] theorem Try.bytes11 : Try.prog.bytesOf 11 = 16 := by kernel_rfl
@[simp] theorem Try.zc11 : zcells Try.prog 11 = some [.str ByteArray.empty] := by kernel_rfl
@[simp] theorem Try.zl11 : zlen Try.prog 11 = 1 := by kernel_rfl
@[simp] theorem Try.cells12 : Try.prog.cellsOf 12 = 1 := by kernel_rfl
@[simp] theorem Try.bytes12 : Try.prog.bytesOf 12 = 8 := by kernel_rfl
@[simp] theorem Try.zc12 : zcells Try.prog 12 = some [.int .u64 0] := by kernel_rfl
@[simp] theorem Try.zl12 : zlen Try.prog 12 = 1 := by kernel_rfl
@[simp] theorem Try.cells13 : Try.prog.cellsOf 13 = 2 := by kernel_rfl
@[simp] theorem Try.bytes13 : Try.prog.bytesOf 13 = 24 := by kernel_rfl
@[simp] theorem Try.zc13 : zcells Try.prog 13 = some [.str ByteArray.empty, .int .u64 0] := by kernel_rfl
@[simp] theorem Try.zl13 : zlen Try.prog 13 = 2 := by kernel_rfl
@[simp] theorem Try.cells14 : Try.prog.cellsOf 14 = 2 := by kernel_rfl
@[simp] theorem Try.bytes14 : Try.prog.bytesOf 14 = 24 := by kernel_rfl
@[simp] theorem Try.zc14 : zcells Try.prog 14 = some [.str ByteArray.empty, .int .u64 0] := by kernel_rfl
@[simp] theorem Try.zl14 : zlen Try.prog 14 = 2 := by kernel_rfl
@[simp] theorem Try.cells15 : Try.prog.cellsOf 15 = 1 := by kernel_rfl
@[simp] theorem Try.bytes15 : Try.prog.bytesOf 15 = 8 := by kernel_rfl
@[simp] theorem Try.zc15 : zcells Try.prog 15 = some [.nilp] := by kernel_rfl
@[simp] theorem Try.zl15 : zlen Try.prog 15 = 1 := by kernel_rfl
@[simp] theorem Try.cells16 : Try.prog.cellsOf 16 = 1 := by kernel_rfl
@[simp] theorem Try.bytes16 : Try.prog.bytesOf 16 = 8 := by kernel_rfl
@[simp] theorem Try.zc16 : zcells Try.prog 16 = some [.nilp] := by kernel_rfl
@[simp] theorem Try.zl16 : zlen Try.prog 16 = 1 := by kernel_rfl
@[simp] theorem Try.cells17 : Try.prog.cellsOf 17 = 1 := by kernel_rfl
@[simp] theorem Try.bytes17 : Try.prog.bytesOf 17 = 8 := by kernel_rfl
@[simp] theorem Try.zc17 : zcells Try.prog 17 = some [.nilp] := by kernel_rfl
@[simp] theorem Try.zl17 : zlen Try.prog 17 = 1 := by kernel_rfl
@[simp] theorem Try.cells18 : Try.prog.cellsOf 18 = 1 := by kernel_rfl
@[simp] theorem Try.bytes18 : Try.prog.bytesOf 18 = 8 := by kernel_rfl
@[simp] theorem Try.zc18 : zcells Try.prog 18 = some [.nilp] := by kernel_rfl
@[simp] theorem Try.zl18 : zlen Try.prog 18 = 1 := by kernel_rfl
@[simp] theorem Try.cells19 : Try.prog.cellsOf 19 = 1 := by kernel_rfl
@[simp] theorem Try.bytes19 : Try.prog.bytesOf 19 = 8 := by kernel_rfl
@[simp] theorem Try.zc19 : zcells Try.prog 19 = some [.nilp] := by kernel_rfl
@[simp] theorem Try.zl19 : zlen Try.prog 19 = 1 := by kernel_rfl
@[simp] theorem Try.cells20 : Try.prog.cellsOf 20 = 1 := by kernel_rfl
@[simp] theorem Try.bytes20 : Try.prog.bytesOf 20 = 16 := by kernel_rfl
@[simp] theorem Try.zc20 : zcells Try.prog 20 = some [.nilif] := by kernel_rfl
@[simp] theorem Try.zl20 : zlen Try.prog 20 = 1 := by kernel_rfl
@[simp] theorem Try.cells21 : Try.prog.cellsOf 21 = 1 := by kernel_rfl
@[simp] theorem Try.bytes21 : Try.prog.bytesOf 21 = 4 := by kernel_rfl
@[simp] theorem Try.zc21 : zcells Try.prog 21 = some [.int .i32 0] := by kernel_rfl
@[simp] theorem Try.zl21 : zlen Try.prog 21 = 1 := by kernel_rfl
@[simp] theorem Try.cells22 : Try.prog.cellsOf 22 = 1 := by kernel_rfl
@[simp] theorem Try.bytes22 : Try.prog.bytesOf 22 = 24 := by kernel_rfl
@[simp] theorem Try.zc22 : zcells Try.prog 22 = some [.nils] := by kernel_rfl
@[simp] theorem Try.zl22 : zlen Try.prog 22 = 1 := by kernel_rfl
@[simp] theorem Try.cells23 : Try.prog.cellsOf 23 = 1 := by kernel_rfl
@[simp] theorem Try.bytes23 : Try.prog.bytesOf 23 = 24 := by kernel_rfl
@[simp] theorem Try.zc23 : zcells Try.prog 23 = some [.nils] := by kernel_rfl
@[simp] theorem Try.zl23 : zlen Try.prog 23 = 1 := by kernel_rfl
@[simp] theorem Try.cells24 : Try.prog.cellsOf 24 = 1 := by kernel_rfl
@[simp] theorem Try.bytes24 : Try.prog.bytesOf 24 = 24 := by kernel_rfl
@[simp] theorem Try.zc24 : zcells Try.prog 24 = some [.nils] := by kernel_rfl
@[simp] theorem Try.zl24 : zlen Try.prog 24 = 1 := by kernel_rfl
@[simp] theorem Try.cells25 : Try.prog.cellsOf 25 = 3 := by kernel_rfl
@[simp] theorem Try.bytes25 : Try.prog.bytesOf 25 = 72 := by kernel_rfl
@[simp] theorem Try.zc25 : zcells Try.prog 25 = some [.nils, .nils, .nils] := by kernel_rfl
@[simp] theorem Try.zl25 : zlen Try.prog 25 = 3 := by kernel_rfl
@[simp] theorem Try.cells26 : Try.prog.cellsOf 26 = 3 := by kernel_rfl
@[simp] theorem Try.bytes26 : Try.prog.bytesOf 26 = 72 := by kernel_rfl
@[simp] theorem Try.zc26 : zcells Try.prog 26 = some [.nils, .nils, .nils] := by kernel_rfl
@[simp] theorem Try.zl26 : zlen Try.prog 26 = 3 := by kernel_rfl
@[simp] theorem Try.cells27 : Try.prog.cellsOf 27 = 4 := by kernel_rfl
@[simp] theorem Try.bytes27 : Try.prog.bytesOf 27 = 88 := by kernel_rfl
@[simp] theorem Try.zc27 : zcells Try.prog 27 = some [.str ByteArray.empty, .nils, .nils, .nils] := by kernel_rfl
@[simp] theorem Try.zl27 : zlen Try.prog 27 = 4 := by kernel_rfl
@[simp] theorem Try.cells28 : Try.prog.cellsOf 28 = 4 := by kernel_rfl
@[simp] theorem Try.bytes28 : Try.prog.bytesOf 28 = 88 := by kernel_rfl
@[simp] theorem Try.zc28 : zcells Try.prog 28 = some [.str ByteArray.empty, .nils, .nils, .nils] := by kernel_rfl
@[simp] theorem Try.zl28 : zlen Try.prog 28 = 4 := by kernel_rfl
@[simp] theorem Try.cells29 : Try.prog.cellsOf 29 = 1 := by kernel_rfl
@[simp] theorem Try.bytes29 : Try.prog.bytesOf 29 = 8 := by kernel_rfl
@[simp] theorem Try.zc29 : zcells Try.prog 29 = some [.nilfn] := by kernel_rfl
@[simp] theorem Try.zl29 : zlen Try.prog 29 = 1 := by kernel_rfl
@[simp] theorem Try.cells30 : Try.prog.cellsOf 30 = 1 := by kernel_rfl
@[simp] theorem Try.bytes30 : Try.prog.bytesOf 30 = 8 := by kernel_rfl
@[simp] theorem Try.zc30 : zcells Try.prog 30 = some [.nilfn] := by kernel_rfl
@[simp] theorem Try.zl30 : zlen Try.prog 30 = 1 := by kernel_rfl
@[simp] theorem Try.cells31 : Try.prog.cellsOf 31 = 1 := by kernel_rfl
@[simp] theorem Try.bytes31 : Try.prog.bytesOf 31 = 8 := by kernel_rfl
@[simp] theorem Try.zc31 : zcells Try.prog 31 = some [.nilfn] := by kernel_rfl
@[simp] theorem Try.zl31 : zlen Try.prog 31 = 1 := by kernel_rfl
@[simp] theorem Try.cells32 : Try.prog.cellsOf 32 = 1 := by kernel_rfl
@[simp] theorem Try.bytes32 : Try.prog.bytesOf 32 = 8 := by kernel_rfl
@[simp] theorem Try.zc32 : zcells Try.prog 32 = some [.nilfn] := by kernel_rfl
@[simp] theorem Try.zl32 : zlen Try.prog 32 = 1 := by kernel_rfl
@[simp] theorem Try.cells33 : Try.prog.cellsOf 33 = 1 := by kernel_rfl
@[simp] theorem Try.bytes33 : Try.prog.bytesOf 33 = 8 := by kernel_rfl
@[simp] theorem Try.zc33 : zcells Try.prog 33 = some [.int .i64 0] := by kernel_rfl
@[simp] theorem Try.zl33 : zlen Try.prog 33 = 1 := by kernel_rfl
@[simp] theorem Try.cells35 : Try.prog.cellsOf 35 = 1 := by kernel_rfl
@[simp] theorem Try.bytes35 : Try.prog.bytesOf 35 = 8 := by kernel_rfl
@[simp] theorem Try.zc35 : zcells Try.prog 35 = some [.nilfn] := by kernel_rfl
@[simp] theorem Try.zl35 : zlen Try.prog 35 = 1 := by kernel_rfl
@[simp] theorem Try.cells37 : Try.prog.cellsOf 37 = 1 := by kernel_rfl
@[simp] theorem Try.bytes37 : Try.prog.bytesOf 37 = 8 := by kernel_rfl
@[simp] theorem Try.zc37 : zcells Try.prog 37 = some [.nilfn] := by kernel_rfl
@[simp] theorem Try.zl37 : zlen Try.prog 37 = 1 := by kernel_rfl
@[simp] theorem Try.cells38 : Try.prog.cellsOf 38 = 1 := by kernel_rfl
@[simp] theorem Try.bytes38 : Try.prog.bytesOf 38 = 8 := by kernel_rfl
@[simp] theorem Try.zc38 : zcells Try.prog 38 = some [.nilfn] := by kernel_rfl
@[simp] theorem Try.zl38 : zlen Try.prog 38 = 1 := by kernel_rfl
@[simp] theorem Try.cells39 : Try.prog.cellsOf 39 = 1 := by kernel_rfl
@[simp] theorem Try.bytes39 : Try.prog.bytesOf 39 = 8 := by kernel_rfl
@[simp] theorem Try.zc39 : zcells Try.prog 39 = some [.nilfn] := by kernel_rfl
@[simp] theorem Try.zl39 : zlen Try.prog 39 = 1 := by kernel_rfl
@[simp] theorem Try.cells40 : Try.prog.cellsOf 40 = 1 := by kernel_rfl
@[simp] theorem Try.bytes40 : Try.prog.bytesOf 40 = 8 := by kernel_rfl
@[simp] theorem Try.zc40 : zcells Try.prog 40 = some [.nilfn] := by kernel_rfl
@[simp] theorem Try.zl40 : zlen Try.prog 40 = 1 := by kernel_rfl
@[simp] theorem Try.cells41 : Try.prog.cellsOf 41 = 1 := by kernel_rfl
@[simp] theorem Try.bytes41 : Try.prog.bytesOf 41 = 8 := by kernel_rfl
@[simp] theorem Try.zc41 : zcells Try.prog 41 = some [.nilfn] := by kernel_rfl
@[simp] theorem Try.zl41 : zlen Try.prog 41 = 1 := by kernel_rfl
@[simp] theorem Try.cells42 : Try.prog.cellsOf 42 = 1 := by kernel_rfl
@[simp] theorem Try.bytes42 : Try.prog.bytesOf 42 = 8 := by kernel_rfl
@[simp] theorem Try.zc42 : zcells Try.prog 42 = some [.nilfn] := by kernel_rfl
@[simp] theorem Try.zl42 : zlen Try.prog 42 = 1 := by kernel_rfl
@[simp] theorem Try.cells43 : Try.prog.cellsOf 43 = 1 := by kernel_rfl
@[simp] theorem Try.bytes43 : Try.prog.bytesOf 43 = 8 := by kernel_rfl
@[simp] theorem Try.zc43 : zcells Try.prog 43 = some [.nilfn] := by kernel_rfl
@[simp] theorem Try.zl43 : zlen Try.prog 43 = 1 := by kernel_rfl
@[simp] theorem Try.cells44 : Try.prog.cellsOf 44 = 1 := by kernel_rfl
@[simp] theorem Try.bytes44 : Try.prog.bytesOf 44 = 8 := by kernel_rfl
@[simp] theorem Try.zc44 : zcells Try.prog 44 = some [.nilfn] := by kernel_rfl
@[simp] theorem Try.zl44 : zlen Try.prog 44 = 1 := by kernel_rfl
@[simp] theorem Try.cells45 : Try.prog.cellsOf 45 = 1 := by kernel_rfl
@[simp] theorem Try.bytes45 : Try.prog.bytesOf 45 = 24 := by kernel_rfl
@[simp] theorem Try.zc45 : zcells Try.prog 45 = some [.nils] := by kernel_rfl
@[simp] theorem Try.zl45 : zlen Try.prog 45 = 1 := by kernel_rfl
@[simp] theorem Try.cells47 : Try.prog.cellsOf 47 = 1 := by kernel_rfl
@[simp] theorem Try.bytes47 : Try.prog.bytesOf 47 = 8 := by kernel_rfl
@[simp] theorem Try.zc47 : zcells Try.prog 47 = some [.nilfn] := by kernel_rfl
@[simp] theorem Try.zl47 : zlen Try.prog 47 = 1 := by kernel_rfl
@[simp] theorem Try.cells48 : Try.prog.cellsOf 48 = 1 := by kernel_rfl
@[simp] theorem Try.bytes48 : Try.prog.bytesOf 48 = 8 := by kernel_rfl
@[simp] theorem Try.zc48 : zcells Try.prog 48 = some [.nilfn] := by kernel_rfl
@[simp] theorem Try.zl48 : zlen Try.prog 48 = 1 := by kernel_rfl
@[simp] theorem Try.cells50 : Try.prog.cellsOf 50 = 1 := by kernel_rfl
@[simp] theorem Try.bytes50 : Try.prog.bytesOf 50 = 8 := by kernel_rfl
@[simp] theorem Try.zc50 : zcells Try.prog 50 = some [.nilfn] := by kernel_rfl
@[simp] theorem Try.zl50 : zlen Try.prog 50 = 1 := by kernel_rfl
@[simp] theorem Try.cells51 : Try.prog.cellsOf 51 = 5 := by kernel_rfl
@[simp] theorem Try.bytes51 : Try.prog.bytesOf 51 = 104 := by kernel_rfl
@[simp] theorem Try.zc51 : zcells Try.prog 51 = some [.str ByteArray.empty, .str ByteArray.empty, .nils, .nils, .nils] := by kernel_rfl
@[simp] theorem Try.zl51 : zlen Try.prog 51 = 5 := by kernel_rfl
@[simp] theorem Try.cells52 : Try.prog.cellsOf 52 = 5 := by kernel_rfl
@[simp] theorem Try.bytes52 : Try.prog.bytesOf 52 = 104 := by kernel_rfl
@[simp] theorem Try.zc52 : zcells Try.prog 52 = some [.str ByteArray.empty, .str ByteArray.empty, .nils, .nils, .nils] := by kernel_rfl
@[simp] theorem Try.zl52 : zlen Try.prog 52 = 5 := by kernel_rfl
@[simp] theorem Try.cells54 : Try.prog.cellsOf 54 = 1 := by kernel_rfl
@[simp] theorem Try.bytes54 : Try.prog.bytesOf 54 = 8 := by kernel_rfl
@[simp] theorem Try.zc54 : zcells Try.prog 54 = some [.nilfn] := by kernel_rfl
@[simp] theorem Try.zl54 : zlen Try.prog 54 = 1 := by kernel_rfl
@[simp] theorem Try.cells56 : Try.prog.cellsOf 56 = 1 := by kernel_rfl
@[simp] theorem Try.bytes56 : Try.prog.bytesOf 56 = 8 := by kernel_rfl
@[simp] theorem Try.zc56 : zcells Try.prog 56 = some [.nilfn] := by kernel_rfl
@[simp] theorem Try.zl56 : zlen Try.prog 56 = 1 := by kernel_rfl
@[simp] theorem Try.cells57 : Try.prog.cellsOf 57 = 1 := by kernel_rfl
@[simp] theorem Try.bytes57 : Try.prog.bytesOf 57 = 24 := by kernel_rfl
@[simp] theorem Try.zc57 : zcells Try.prog 57 = some [.nils] := by kernel_rfl
@[simp] theorem Try.zl57 : zlen Try.prog 57 = 1 := by kernel_rfl
@[simp] theorem Try.cells59 : Try.prog.cellsOf 59 = 1 := by kernel_rfl
@[simp] theorem Try.bytes59 : Try.prog.bytesOf 59 = 8 := by kernel_rfl
@[simp] theorem Try.zc59 : zcells Try.prog 59 = some [.nilfn] := by kernel_rfl
@[simp] theorem Try.zl59 : zlen Try.prog 59 = 1 := by kernel_rfl
@[simp] theorem Try.cells61 : Try.prog.cellsOf 61 = 1 := by kernel_rfl
@[simp] theorem Try.bytes61 : Try.prog.bytesOf 61 = 8 := by kernel_rfl
@[simp] theorem Try.zc61 : zcells Try.prog 61 = some [.nilfn] := by kernel_rfl
@[simp] theorem Try.zl61 : zlen Try.prog 61 = 1 := by kernel_rfl
@[simp] theorem Try.cells62 : Try.prog.cellsOf 62 = 1 := by kernel_rfl
@[simp] theorem Try.bytes62 : Try.prog.bytesOf 62 = 8 := by kernel_rfl
@[simp] theorem Try.zc62 : zcells Try.prog 62 = some [.nilfn] := by kernel_rfl
@[simp] theorem Try.zl62 : zlen Try.prog 62 = 1 := by kernel_rfl
@[simp] theorem Try.cells63 : Try.prog.cellsOf 63 = 1 := by kernel_rfl
@[simp] theorem Try.bytes63 : Try.prog.bytesOf 63 = 8 := by kernel_rfl
@[simp] theorem Try.zc63 : zcells Try.prog 63 = some [.nilfn] := by kernel_rfl
@[simp] theorem Try.zl63 : zlen Try.prog 63 = 1 := by kernel_rfl
@[simp] theorem Try.cells64 : Try.prog.cellsOf 64 = 1 := by kernel_rfl
@[simp] theorem Try.bytes64 : Try.prog.bytesOf 64 = 8 := by kernel_rfl
@[simp] theorem Try.zc64 : zcells Try.prog 64 = some [.nilfn] := by kernel_rfl
@[simp] theorem Try.zl64 : zlen Try.prog 64 = 1 := by kernel_rfl
@[simp] theorem Try.cells65 : Try.prog.cellsOf 65 = 1 := by kernel_rfl
@[simp] theorem Try.bytes65 : Try.prog.bytesOf 65 = 8 := by kernel_rfl
@[simp] theorem Try.zc65 : zcells Try.prog 65 = some [.nilfn] := by kernel_rfl
@[simp] theorem Try.zl65 : zlen Try.prog 65 = 1 := by kernel_rfl
@[simp] theorem Try.cells66 : Try.prog.cellsOf 66 = 1 := by kernel_rfl
@[simp] theorem Try.bytes66 : Try.prog.bytesOf 66 = 4 := by kernel_rfl
@[simp] theorem Try.zc66 : zcells Try.prog 66 = some [.int .u32 0] := by kernel_rfl
@[simp] theorem Try.zl66 : zlen Try.prog 66 = 1 := by kernel_rfl
@[simp] theorem Try.cells67 : Try.prog.cellsOf 67 = 2 := by kernel_rfl
@[simp] theorem Try.bytes67 : Try.prog.bytesOf 67 = 8 := by kernel_rfl
@[simp] theorem Try.zc67 : zcells Try.prog 67 = some [.int .u32 0, .int .u32 0] := by kernel_rfl
@[simp] theorem Try.zl67 : zlen Try.prog 67 = 2 := by kernel_rfl
@[simp] theorem Try.eqa67 (x0 y0 : Int) (x1 y1 : Int) : EqA Try.prog 67 [.int .u32 x0, .int .u32 x1] [.int .u32 y0, .int .u32 y1] :=
  EqA_of (l := [.int .u32, .int .u32]) 6 (by kernel_rfl) (by kernel_rfl) (by kernel_rfl) (by kernel_rfl) (by omega) (by simp [LSS, SSh]) (by simp [LSS, SSh])
@[simp] theorem Try.cells68 : Try.prog.cellsOf 68 = 2 := by kernel_rfl
@[simp] theorem Try.bytes68 : Try.prog.bytesOf 68 = 8 := by kernel_rfl
@[simp] theorem Try.zc68 : zcells Try.prog 68 = some [.int .u32 0, .int .u32 0] := by kernel_rfl
@[simp] theorem Try.zl68 : zlen Try.prog 68 = 2 := by kernel_rfl
@[simp] theorem Try.eqa68 (x0 y0 : Int) (x1 y1 : Int) : EqA Try.prog 68 [.int .u32 x0, .int .u32 x1] [.int .u32 y0, .int .u32 y1] :=
  EqA_of (l := [.int .u32, .int .u32]) 6 (by kernel_rfl) (by kernel_rfl) (by kernel_rfl) (by kernel_rfl) (by omega) (by simp [LSS, SSh]) (by simp [LSS, SSh])
@[simp] theorem Try.cells70 : Try.prog.cellsOf 70 = 1 := by kernel_rfl
@[simp] theorem Try.bytes70 : Try.prog.bytesOf 70 = 8 := by kernel_rfl
@[simp] theorem Try.zc70 : zcells Try.prog 70 = some [.nilfn] := by kernel_rfl
@[simp] theorem Try.zl70 : zlen Try.prog 70 = 1 := by kernel_rfl
@[simp] theorem Try.cells71 : Try.prog.cellsOf 71 = 1 := by kernel_rfl
@[simp] theorem Try.bytes71 : Try.prog.bytesOf 71 = 24 := by kernel_rfl
@[simp] theorem Try.zc71 : zcells Try.prog 71 = some [.nils] := by kernel_rfl
@[simp] theorem Try.zl71 : zlen Try.prog 71 = 1 := by kernel_rfl
@[simp] theorem Try.cells72 : Try.prog.cellsOf 72 = 1 := by kernel_rfl
@[simp] theorem Try.bytes72 : Try.prog.bytesOf 72 = 8 := by kernel_rfl
@[simp] theorem Try.zc72 : zcells Try.prog 72 = some [.nilfn] := by kernel_rfl
@[simp] theorem Try.zl72 : zlen Try.prog 72 = 1 := by kernel_rfl
@[simp] theorem Try.cells73 : Try.prog.cellsOf 73 = 1 := by kernel_rfl
@[simp] theorem Try.bytes73 : Try.prog.bytesOf 73 = 24 := by kernel_rfl
@[simp] theorem Try.zc73 : zcells Try.prog 73 = some [.nils] := by kernel_rfl
@[simp] theorem Try.zl73 : zlen Try.prog 73 = 1 := by kernel_rfl
@[simp] theorem Try.cells74 : Try.prog.cellsOf 74 = 1 := by kernel_rfl
@[simp] theorem Try.bytes74 : Try.prog.bytesOf 74 = 24 := by kernel_rfl
@[simp] theorem Try.zc74 : zcells Try.prog 74 = some [.nils] := by kernel_rfl
@[simp] theorem Try.zl74 : zlen Try.prog 74 = 1 := by kernel_rfl
@[simp] theorem Try.cells76 : Try.prog.cellsOf 76 = 1 := by kernel_rfl
@[simp] theorem Try.bytes76 : Try.prog.bytesOf 76 = 8 := by kernel_rfl
@[simp] theorem Try.zc76 : zcells Try.prog 76 = some [.nilfn] := by kernel_rfl
@[simp] theorem Try.zl76 : zlen Try.prog 76 = 1 := by kernel_rfl
@[simp] theorem Try.cells77 : Try.prog.cellsOf 77 = 1 := by kernel_rfl
@[simp] theorem Try.bytes77 : Try.prog.bytesOf 77 = 8 := by kernel_rfl
@[simp] theorem Try.zc77 : zcells Try.prog 77 = some [.nilm] := by kernel_rfl
@[simp] theorem Try.zl77 : zlen Try.prog 77 = 1 := by kernel_rfl
@[simp] theorem Try.cells78 : Try.prog.cellsOf 78 = 1 := by kernel_rfl
@[simp] theorem Try.bytes78 : Try.prog.bytesOf 78 = 24 := by kernel_rfl
@[simp] theorem Try.zc78 : zcells Try.prog 78 = some [.nils] := by kernel_rfl
@[simp] theorem Try.zl78 : zlen Try.prog 78 = 1 := by kernel_rfl
@[simp] theorem Try.cells79 : Try.prog.cellsOf 79 = 3 := by kernel_rfl
@[simp] theorem Try.bytes79 : Try.prog.bytesOf 79 = 56 := by kernel_rfl
@[simp] theorem Try.zc79 : zcells Try.prog 79 = some [.nils, .nilm, .nils] := by kernel_rfl
@[simp] theorem Try.zl79 : zlen Try.prog 79 = 3 := by kernel_rfl
@[simp] theorem Try.cells80 : Try.prog.cellsOf 80 = 3 := by kernel_rfl
@[simp] theorem Try.bytes80 : Try.prog.bytesOf 80 = 56 := by kernel_rfl
@[simp] theorem Try.zc80 : zcells Try.prog 80 = some [.nils, .nilm, .nils] := by kernel_rfl
@[simp] theorem Try.zl80 : zlen Try.prog 80 = 3 := by kernel_rfl
@[simp] theorem Try.cells82 : Try.prog.cellsOf 82 = 1 := by kernel_rfl
@[simp] theorem Try.bytes82 : Try.prog.bytesOf 82 = 8 := by kernel_rfl
@[simp] theorem Try.zc82 : zcells Try.prog 82 = some [.nilfn] := by kernel_rfl
@[simp] theorem Try.zl82 : zlen Try.prog 82 = 1 := by kernel_rfl
@[simp] theorem Try.cells83 : Try.prog.cellsOf 83 = 1 := by kernel_rfl
@[simp] theorem Try.bytes83 : Try.prog.bytesOf 83 = 8 := by kernel_rfl
@[simp] theorem Try.zc83 : zcells Try.prog 83 = some [.nilfn] := by kernel_rfl
@[simp] theorem Try.zl83 : zlen Try.prog 83 = 1 := by kernel_rfl
@[simp] theorem Try.cells85 : Try.prog.cellsOf 85 = 1 := by kernel_rfl
@[simp] theorem Try.bytes85 : Try.prog.bytesOf 85 = 8 := by kernel_rfl
@[simp] theorem Try.zc85 : zcells Try.prog 85 = some [.nilfn] := by kernel_rfl
@[simp] theorem Try.zl85 : zlen Try.prog 85 = 1 := by kernel_rfl
@[simp] theorem Try.cells86 : Try.prog.cellsOf 86 = 1 := by kernel_rfl
@[simp] theorem Try.bytes86 : Try.prog.bytesOf 86 = 8 := by kernel_rfl
@[simp] theorem Try.zc86 : zcells Try.prog 86 = some [.nilfn] := by kernel_rfl
@[simp] theorem Try.zl86 : zlen Try.prog 86 = 1 := by kernel_rfl
@[simp] theorem Try.cells87 : Try.prog.cellsOf 87 = 1 := by kernel_rfl
@[simp] theorem Try.bytes87 : Try.prog.bytesOf 87 = 8 := by kernel_rfl
@[simp] theorem Try.zc87 : zcells Try.prog 87 = some [.nilfn] := by kernel_rfl
@[simp] theorem Try.zl87 : zlen Try.prog 87 = 1 := by kernel_rfl
@[simp] theorem Try.cells88 : Try.prog.cellsOf 88 = 1 := by kernel_rfl
@[simp] theorem Try.bytes88 : Try.prog.bytesOf 88 = 8 := by kernel_rfl
@[simp] theorem Try.zc88 : zcells Try.prog 88 = some [.nilfn] := by kernel_rfl
@[simp] theorem Try.zl88 : zlen Try.prog 88 = 1 := by kernel_rfl
@[simp] theorem Try.cells89 : Try.prog.cellsOf 89 = 1 := by kernel_rfl
@[simp] theorem Try.bytes89 : Try.prog.bytesOf 89 = 8 := by kernel_rfl
@[simp] theorem Try.zc89 : zcells Try.prog 89 = some [.nilfn] := by kernel_rfl
@[simp] theorem Try.zl89 : zlen Try.prog 89 = 1 := by kernel_rfl
@[simp] theorem Try.cells90 : Try.prog.cellsOf 90 = 1 := by kernel_rfl
@[simp] theorem Try.bytes90 : Try.prog.bytesOf 90 = 8 := by kernel_rfl
@[simp] theorem Try.zc90 : zcells Try.prog 90 = some [.nilfn] := by kernel_rfl
@[simp] theorem Try.zl90 : zlen Try.prog 90 = 1 := by kernel_rfl
@[simp] theorem Try.cells91 : Try.prog.cellsOf 91 = 1 := by kernel_rfl
@[simp] theorem Try.bytes91 : Try.prog.bytesOf 91 = 8 := by kernel_rfl
@[simp] theorem Try.zc91 : zcells Try.prog 91 = some [.nilfn] := by kernel_rfl
@[simp] theorem Try.zl91 : zlen Try.prog 91 = 1 := by kernel_rfl
@[simp] theorem Try.cells93 : Try.prog.cellsOf 93 = 1 := by kernel_rfl
@[simp] theorem Try.bytes93 : Try.prog.bytesOf 93 = 8 := by kernel_rfl
@[simp] theorem Try.zc93 : zcells Try.prog 93 = some [.nilfn] := by kernel_rfl
@[simp] theorem Try.zl93 : zlen Try.prog 93 = 1 := by kernel_rfl
@[simp] theorem Try.cells94 : Try.prog.cellsOf 94 = 1 := by kernel_rfl
@[simp] theorem Try.bytes94 : Try.prog.bytesOf 94 = 8 := by kernel_rfl
@[simp] theorem Try.zc94 : zcells Try.prog 94 = some [.nilfn] := by kernel_rfl
@[simp] theorem Try.zl94 : zlen Try.prog 94 = 1 := by kernel_rfl
@[simp] theorem Try.cells96 : Try.prog.cellsOf 96 = 1 := by kernel_rfl
@[simp] theorem Try.bytes96 : Try.prog.bytesOf 96 = 8 := by kernel_rfl
@[simp] theorem Try.zc96 : zcells Try.prog 96 = some [.nilfn] := by kernel_rfl
@[simp] theorem Try.zl96 : zlen Try.prog 96 = 1 := by kernel_rfl
@[simp] theorem Try.cells97 : Try.prog.cellsOf 97 = 1 := by kernel_rfl
@[simp] theorem Try.bytes97 : Try.prog.bytesOf 97 = 8 := by kernel_rfl
@[simp] theorem Try.zc97 : zcells Try.prog 97 = some [.int .u64 0] := by kernel_rfl
@[simp] theorem Try.zl97 : zlen Try.prog 97 = 1 := by kernel_rfl
@[simp] theorem Try.cells98 : Try.prog.cellsOf 98 = 2 := by kernel_rfl
@[simp] theorem Try.bytes98 : Try.prog.bytesOf 98 = 16 := by kernel_rfl
@[simp] theorem Try.zc98 : zcells Try.prog 98 = some [.int .u64 0, .int .u64 0] := by kernel_rfl
@[simp] theorem Try.zl98 : zlen Try.prog 98 = 2 := by kernel_rfl
@[simp] theorem Try.eqa98 (x0 y0 : Int) (x1 y1 : Int) : EqA Try.prog 98 [.int .u64 x0, .int .u64 x1] [.int .u64 y0, .int .u64 y1] :=
  EqA_of (l := [.int .u64, .int .u64]) 6 (by kernel_rfl) (by kernel_rfl) (by kernel_rfl) (by kernel_rfl) (by omega) (by simp [LSS, SSh]) (by simp [LSS, SSh])
@[simp] theorem Try.cells99 : Try.prog.cellsOf 99 = 2 := by kernel_rfl
@[simp] theorem Try.bytes99 : Try.prog.bytesOf 99 = 16 := by kernel_rfl
@[simp] theorem Try.zc99 : zcells Try.prog 99 = some [.int .u64 0, .int .u64 0] := by kernel_rfl
@[simp] theorem Try.zl99 : zlen Try.prog 99 = 2 := by kernel_rfl
@[simp] theorem Try.eqa99 (x0 y0 : Int) (x1 y1 : Int) : EqA Try.prog 99 [.int .u64 x0, .int .u64 x1] [.int .u64 y0, .int .u64 y1] :=
  EqA_of (l := [.int .u64, .int .u64]) 6 (by kernel_rfl) (by kernel_rfl) (by kernel_rfl) (by kernel_rfl) (by omega) (by simp [LSS, SSh]) (by simp [LSS, SSh])
@[simp] theorem Try.cells100 : Try.prog.cellsOf 100 = 4 := by kernel_rfl
@[simp] theorem Try.bytes100 : Try.prog.bytesOf 100 = 32 := by kernel_rfl
@[simp] theorem Try.zc100 : zcells Try.prog 100 = some [.int .u64 0, .int .u64 0, .int .u64 0, .int .u64 0] := by kernel_rfl
@[simp] theorem Try.zl100 : zlen Try.prog 100 = 4 := by kernel_rfl
@[simp] theorem Try.eqa100 (x0 y0 : Int) (x1 y1 : Int) (x2 y2 : Int) (x3 y3 : Int) : EqA Try.prog 100 [.int .u64 x0, .int .u64 x1, .int .u64 x2, .int .u64 x3] [.int .u64 y0, .int .u64 y1, .int .u64 y2, .int .u64 y3] :=
  EqA_of (l := [.int .u64, .int .u64, .int .u64, .int .u64]) 6 (by kernel_rfl) (by kernel_rfl) (by kernel_rfl) (by kernel_rfl) (by omega) (by simp [LSS, SSh]) (by simp [LSS, SSh])
@[simp] theorem Try.cells101 : Try.prog.cellsOf 101 = 4 := by kernel_rfl
@[simp] theorem Try.bytes101 : Try.prog.bytesOf 101 = 32 := by kernel_rfl
@[simp] theorem Try.zc101 : zcells Try.prog 101 = some [.int .u64 0, .int .u64 0, .int .u64 0, .int .u64 0] := by kernel_rfl
@[simp] theorem Try.zl101 : zlen Try.prog 101 = 4 := by kernel_rfl
@[simp] theorem Try.eqa101 (x0 y0 : Int) (x1 y1 : Int) (x2 y2 : Int) (x3 y3 : Int) : EqA Try.prog 101 [.int .u64 x0, .int .u64 x1, .int .u64 x2, .int .u64 x3] [.int .u64 y0, .int .u64 y1, .int .u64 y2, .int .u64 y3] :=
  EqA_of (l := [.int .u64, .int .u64, .int .u64, .int .u64]) 6 (by kernel_rfl) (by kernel_rfl) (by kernel_rfl) (by kernel_rfl) (by omega) (by simp [LSS, SSh]) (by simp [LSS, SSh])
@[simp] theorem Try.cells102 : Try.prog.cellsOf 102 = 1 := by kernel_rfl
@[simp] theorem Try.bytes102 : Try.prog.bytesOf 102 = 8 := by kernel_rfl
@[simp] theorem Try.zc102 : zcells Try.prog 102 = some [.nilfn] := by kernel_rfl
@[simp] theorem Try.zl102 : zlen Try.prog 102 = 1 := by kernel_rfl
@[simp] theorem Try.cells103 : Try.prog.cellsOf 103 = 1 := by kernel_rfl
@[simp] theorem Try.bytes103 : Try.prog.bytesOf 103 = 8 := by kernel_rfl
@[simp] theorem Try.zc103 : zcells Try.prog 103 = some [.nilfn] := by kernel_rfl
@[simp] theorem Try.zl103 : zlen Try.prog 103 = 1 := by kernel_rfl
@[simp] theorem Try.cells104 : Try.prog.cellsOf 104 = 1 := by kernel_rfl
@[simp] theorem Try.bytes104 : Try.prog.bytesOf 104 = 24 := by kernel_rfl
@[simp] theorem Try.zc104 : zcells Try.prog 104 = some [.nils] := by kernel_rfl
@[simp] theorem Try.zl104 : zlen Try.prog 104 = 1 := by kernel_rfl
@[simp] theorem Try.cells105 : Try.prog.cellsOf 105 = 1 := by kernel_rfl
@[simp] theorem Try.bytes105 : Try.prog.bytesOf 105 = 8 := by kernel_rfl
@[simp] theorem Try.zc105 : zcells Try.prog 105 = some [.nilfn] := by kernel_rfl
@[simp] theorem Try.zl105 : zlen Try.prog 105 = 1 := by kernel_rfl
@[simp] theorem Try.cells106 : Try.prog.cellsOf 106 = 1 := by kernel_rfl
@[simp] theorem Try.bytes106 : Try.prog.bytesOf 106 = 8 := by kernel_rfl
@[simp] theorem Try.zc106 : zcells Try.prog 106 = some [.nilfn] := by kernel_rfl
@[simp] theorem Try.zl106 : zlen Try.prog 106 = 1 := by kernel_rfl
@[simp] theorem Try.cells107 : Try.prog.cellsOf 107 = 1 := by kernel_rfl
@[simp] theorem Try.bytes107 : Try.prog.bytesOf 107 = 8 := by kernel_rfl
@[simp] theorem Try.zc107 : zcells Try.prog 107 = some [.nilfn] := by kernel_rfl
@[simp] theorem Try.zl107 : zlen Try.prog 107 = 1 := by kernel_rfl
@[simp] theorem Try.cells108 : Try.prog.cellsOf 108 = 1 := by kernel_rfl
@[simp] theorem Try.bytes108 : Try.prog.bytesOf 108 = 8 := by kernel_rfl
@[simp] theorem Try.zc108 : zcells Try.prog 108 = some [.nilfn] := by kernel_rfl
@[simp] theorem Try.zl108 : zlen Try.prog 108 = 1 := by kernel_rfl
@[simp] theorem Try.cells109 : Try.prog.cellsOf 109 = 1 := by kernel_rfl
@[simp] theorem Try.bytes109 : Try.prog.bytesOf 109 = 24 := by kernel_rfl
@[simp] theorem Try.zc109 : zcells Try.prog 109 = some [.nils] := by kernel_rfl
@[simp] theorem Try.zl109 : zlen Try.prog 109 = 1 := by kernel_rfl
@[simp] theorem Try.cells110 : Try.prog.cellsOf 110 = 3 := by kernel_rfl
@[simp] theorem Try.bytes110 : Try.prog.bytesOf 110 = 72 := by kernel_rfl
@[simp] theorem Try.zc110 : zcells Try.prog 110 = some [.nils, .nils, .nils] := by kernel_rfl
@[simp] theorem Try.zl110 : zlen Try.prog 110 = 3 := by kernel_rfl
@[simp] theorem Try.cells111 : Try.prog.cellsOf 111 = 1 := by kernel_rfl
@[simp] theorem Try.bytes111 : Try.prog.bytesOf 111 = 8 := by kernel_rfl
@[simp] theorem Try.zc111 : zcells Try.prog 111 = some [.nilfn] := by kernel_rfl
@[simp] theorem Try.zl111 : zlen Try.prog 111 = 1 := by kernel_rfl
@[simp] theorem Try.cells112 : Try.prog.cellsOf 112 = 1 := by kernel_rfl
@[simp] theorem Try.bytes112 : Try.prog.bytesOf 112 = 8 := by kernel_rfl
@[simp] theorem Try.zc112 : zcells Try.prog 112 = some [.nilfn] := by kernel_rfl
@[simp] theorem Try.zl112 : zlen Try.prog 112 = 1 := by kernel_rfl
@[simp] theorem Try.cells113 : Try.prog.cellsOf 113 = 1 := by kernel_rfl
@[simp] theorem Try.bytes113 : Try.prog.bytesOf 113 = 8 := by kernel_rfl
@[simp] theorem Try.zc113 : zcells Try.prog 113 = some [.nilfn] := by kernel_rfl
@[simp] theorem Try.zl113 : zlen Try.prog 113 = 1 := by kernel_rfl
@[simp] theorem Try.cells114 : Try.prog.cellsOf 114 = 1 := by kernel_rfl
@[simp] theorem Try.bytes114 : Try.prog.bytesOf 114 = 8 := by kernel_rfl
@[simp] theorem Try.zc114 : zcells Try.prog 114 = some [.nilfn] := by kernel_rfl
@[simp] theorem Try.zl114 : zlen Try.prog 114 = 1 := by kernel_rfl
@[simp] theorem Try.cells115 : Try.prog.cellsOf 115 = 1 := by kernel_rfl
@[simp] theorem Try.bytes115 : Try.prog.bytesOf 115 = 8 := by kernel_rfl
@[simp] theorem Try.zc115 : zcells Try.prog 115 = some [.nilfn] := by kernel_rfl
@[simp] theorem Try.zl115 : zlen Try.prog 115 = 1 := by kernel_rfl
@[simp] theorem Try.cells116 : Try.prog.cellsOf 116 = 1 := by kernel_rfl
@[simp] theorem Try.bytes116 : Try.prog.bytesOf 116 = 8 := by kernel_rfl
@[simp] theorem Try.zc116 : zcells Try.prog 116 = some [.nilfn] := by kernel_rfl
@[simp] theorem Try.zl116 : zlen Try.prog 116 = 1 := by kernel_rfl
@[simp] theorem Try.cells117 : Try.prog.cellsOf 117 = 1 := by kernel_rfl
@[simp] theorem Try.bytes117 : Try.prog.bytesOf 117 = 8 := by kernel_rfl
@[simp] theorem Try.zc117 : zcells Try.prog 117 = some [.nilfn] := by kernel_rfl
@[simp] theorem Try.zl117 : zlen Try.prog 117 = 1 := by kernel_rfl
@[simp] theorem Try.cells118 : Try.prog.cellsOf 118 = 1 := by kernel_rfl
@[simp] theorem Try.bytes118 : Try.prog.bytesOf 118 = 8 := by kernel_rfl
@[simp] theorem Try.zc118 : zcells Try.prog 118 = some [.nilfn] := by kernel_rfl
@[simp] theorem Try.zl118 : zlen Try.prog 118 = 1 := by kernel_rfl
@[simp] theorem Try.cells119 : Try.prog.cellsOf 119 = 1 := by kernel_rfl
@[simp] theorem Try.bytes119 : Try.prog.bytesOf 119 = 8 := by kernel_rfl
@[simp] theorem Try.zc119 : zcells Try.prog 119 = some [.nilfn] := by kernel_rfl
@[simp] theorem Try.zl119 : zlen Try.prog 119 = 1 := by kernel_rfl
@[simp] theorem Try.cells121 : Try.prog.cellsOf 121 = 1 := by kernel_rfl
@[simp] theorem Try.bytes121 : Try.prog.bytesOf 121 = 8 := by kernel_rfl
@[simp] theorem Try.zc121 : zcells Try.prog 121 = some [.nilfn] := by kernel_rfl
@[simp] theorem Try.zl121 : zlen Try.prog 121 = 1 := by kernel_rfl
@[simp] theorem Try.cells122 : Try.prog.cellsOf 122 = 1 := by kernel_rfl
@[simp] theorem Try.bytes122 : Try.prog.bytesOf 122 = 8 := by kernel_rfl
@[simp] theorem Try.zc122 : zcells Try.prog 122 = some [.nilfn] := by kernel_rfl
@[simp] theorem Try.zl122 : zlen Try.prog 122 = 1 := by kernel_rfl
@[simp] theorem Try.cells124 : Try.prog.cellsOf 124 = 1 := by kernel_rfl
@[simp] theorem Try.bytes124 : Try.prog.bytesOf 124 = 8 := by kernel_rfl
@[simp] theorem Try.zc124 : zcells Try.prog 124 = some [.nilfn] := by kernel_rfl
@[simp] theorem Try.zl124 : zlen Try.prog 124 = 1 := by kernel_rfl
@[simp] theorem Try.cells125 : Try.prog.cellsOf 125 = 1 := by kernel_rfl
@[simp] theorem Try.bytes125 : Try.prog.bytesOf 125 = 8 := by kernel_rfl
@[simp] theorem Try.zc125 : zcells Try.prog 125 = some [.nilfn] := by kernel_rfl
@[simp] theorem Try.zl125 : zlen Try.prog 125 = 1 := by kernel_rfl
@[simp] theorem Try.cells126 : Try.prog.cellsOf 126 = 1 := by kernel_rfl
@[simp] theorem Try.bytes126 : Try.prog.bytesOf 126 = 8 := by kernel_rfl
@[simp] theorem Try.zc126 : zcells Try.prog 126 = some [.nilfn] := by kernel_rfl
@[simp] theorem Try.zl126 : zlen Try.prog 126 = 1 := by kernel_rfl
@[simp] theorem Try.cells127 : Try.prog.cellsOf 127 = 1 := by kernel_rfl
@[simp] theorem Try.bytes127 : Try.prog.bytesOf 127 = 8 := by kernel_rfl
@[simp] theorem Try.zc127 : zcells Try.prog 127 = some [.nilfn] := by kernel_rfl
@[simp] theorem Try.zl127 : zlen Try.prog 127 = 1 := by kernel_rfl
@[simp] theorem Try.cells128 : Try.prog.cellsOf 128 = 1 := by kernel_rfl
@[simp] theorem Try.bytes128 : Try.prog.bytesOf 128 = 8 := by kernel_rfl
@[simp] theorem Try.zc128 : zcells Try.prog 128 = some [.nilfn] := by kernel_rfl
@[simp] theorem Try.zl128 : zlen Try.prog 128 = 1 := by kernel_rfl
@[simp] theorem Try.cells129 : Try.prog.cellsOf 129 = 1 := by kernel_rfl
@[simp] theorem Try.bytes129 : Try.prog.bytesOf 129 = 24 := by kernel_rfl
@[simp] theorem Try.zc129 : zcells Try.prog 129 = some [.nils] := by kernel_rfl
@[simp] theorem Try.zl129 : zlen Try.prog 129 = 1 := by kernel_rfl
@[simp] theorem Try.cells130 : Try.prog.cellsOf 130 = 1 := by kernel_rfl
@[simp] theorem Try.bytes130 : Try.prog.bytesOf 130 = 8 := by kernel_rfl
@[simp] theorem Try.zc130 : zcells Try.prog 130 = some [.nilfn] := by kernel_rfl
@[simp] theorem Try.zl130 : zlen Try.prog 130 = 1 := by kernel_rfl
@[simp] theorem Try.cells131 : Try.prog.cellsOf 131 = 1 := by kernel_rfl
@[simp] theorem Try.bytes131 : Try.prog.bytesOf 131 = 8 := by kernel_rfl
@[simp] theorem Try.zc131 : zcells Try.prog 131 = some [.nilfn] := by kernel_rfl
@[simp] theorem Try.zl131 : zlen Try.prog 131 = 1 := by kernel_rfl
@[simp] theorem Try.cells132 : Try.prog.cellsOf 132 = 1 := by kernel_rfl
@[simp] theorem Try.bytes132 : Try.prog.bytesOf 132 = 8 := by kernel_rfl
@[simp] theorem Try.zc132 : zcells Try.prog 132 = some [.nilfn] := by kernel_rfl
@[simp] theorem Try.zl132 : zlen Try.prog 132 = 1 := by kernel_rfl
@[simp] theorem Try.cells133 : Try.prog.cellsOf 133 = 1 := by kernel_rfl
@[simp] theorem Try.bytes133 : Try.prog.bytesOf 133 = 8 := by kernel_rfl
@[simp] theorem Try.zc133 : zcells Try.prog 133 = some [.nilfn] := by kernel_rfl
@[simp] theorem Try.zl133 : zlen Try.prog 133 = 1 := by kernel_rfl
@[simp] theorem Try.cells134 : Try.prog.cellsOf 134 = 1 := by kernel_rfl
@[simp] theorem Try.bytes134 : Try.prog.bytesOf 134 = 8 := by kernel_rfl
@[simp] theorem Try.zc134 : zcells Try.prog 134 = some [.nilfn] := by kernel_rfl
@[simp] theorem Try.zl134 : zlen Try.prog 134 = 1 := by kernel_rfl
@[simp] theorem Try.cells135 : Try.prog.cellsOf 135 = 1 := by kernel_rfl
@[simp] theorem Try.bytes135 : Try.prog.bytesOf 135 = 8 := by kernel_rfl
@[simp] theorem Try.zc135 : zcells Try.prog 135 = some [.nilfn] := by kernel_rfl
@[simp] theorem Try.zl135 : zlen Try.prog 135 = 1 := by kernel_rfl
@[simp] theorem Try.cells136 : Try.prog.cellsOf 136 = 1 := by kernel_rfl
@[simp] theorem Try.bytes136 : Try.prog.bytesOf 136 = 8 := by kernel_rfl
@[simp] theorem Try.zc136 : zcells Try.prog 136 = some [.nilfn] := by kernel_rfl
@[simp] theorem Try.zl136 : zlen Try.prog 136 = 1 := by kernel_rfl
@[simp] theorem Try.cells137 : Try.prog.cellsOf 137 = 1 := by kernel_rfl
@[simp] theorem Try.bytes137 : Try.prog.bytesOf 137 = 8 := by kernel_rfl
@[simp] theorem Try.zc137 : zcells Try.prog 137 = some [.nilfn] := by kernel_rfl
@[simp] theorem Try.zl137 : zlen Try.prog 137 = 1 := by kernel_rfl
@[simp] theorem Try.cells138 : Try.prog.cellsOf 138 = 1 := by kernel_rfl
@[simp] theorem Try.bytes138 : Try.prog.bytesOf 138 = 8 := by kernel_rfl
@[simp] theorem Try.zc138 : zcells Try.prog 138 = some [.nilfn] := by kernel_rfl
@[simp] theorem Try.zl138 : zlen Try.prog 138 = 1 := by kernel_rfl
@[simp] theorem Try.cells139 : Try.prog.cellsOf 139 = 1 := by kernel_rfl
@[simp] theorem Try.bytes139 : Try.prog.bytesOf 139 = 8 := by kernel_rfl
@[simp] theorem Try.zc139 : zcells Try.prog 139 = some [.nilfn] := by kernel_rfl
@[simp] theorem Try.zl139 : zlen Try.prog 139 = 1 := by kernel_rfl
@[simp] theorem Try.cells140 : Try.prog.cellsOf 140 = 1 := by kernel_rfl
@[simp] theorem Try.bytes140 : Try.prog.bytesOf 140 = 8 := by kernel_rfl
@[simp] theorem Try.zc140 : zcells Try.prog 140 = some [.nilfn] := by kernel_rfl
@[simp] theorem Try.zl140 : zlen Try.prog 140 = 1 := by kernel_rfl
@[simp] theorem Try.cells141 : Try.prog.cellsOf 141 = 1 := by kernel_rfl
@[simp] theorem Try.bytes141 : Try.prog.bytesOf 141 = 8 := by kernel_rfl
@[simp] theorem Try.zc141 : zcells Try.prog 141 = some [.nilfn] := by kernel_rfl
@[simp] theorem Try.zl141 : zlen Try.prog 141 = 1 := by kernel_rfl
@[simp] theorem Try.cells142 : Try.prog.cellsOf 142 = 1 := by kernel_rfl
@[simp] theorem Try.bytes142 : Try.prog.bytesOf 142 = 8 := by kernel_rfl
@[simp] theorem Try.zc142 : zcells Try.prog 142 = some [.nilfn] := by kernel_rfl
@[simp] theorem Try.zl142 : zlen Try.prog 142 = 1 := by kernel_rfl
@[simp] theorem Try.cells143 : Try.prog.cellsOf 143 = 1 := by kernel_rfl
@[simp] theorem Try.bytes143 : Try.prog.bytesOf 143 = 8 := by kernel_rfl
@[simp] theorem Try.zc143 : zcells Try.prog 143 = some [.nilfn] := by kernel_rfl
@[simp] theorem Try.zl143 : zlen Try.prog 143 = 1 := by kernel_rfl
@[simp] theorem Try.cells144 : Try.prog.cellsOf 144 = 1 := by kernel_rfl
@[simp] theorem Try.bytes144 : Try.prog.bytesOf 144 = 8 := by kernel_rfl
@[simp] theorem Try.zc144 : zcells Try.prog 144 = some [.nilfn] := by kernel_rfl
@[simp] theorem Try.zl144 : zlen Try.prog 144 = 1 := by kernel_rfl
@[simp] theorem Try.cells146 : Try.prog.cellsOf 146 = 1 := by kernel_rfl
@[simp] theorem Try.bytes146 : Try.prog.bytesOf 146 = 8 := by kernel_rfl
@[simp] theorem Try.zc146 : zcells Try.prog 146 = some [.nilfn] := by kernel_rfl
@[simp] theorem Try.zl146 : zlen Try.prog 146 = 1 := by kernel_rfl
@[simp] theorem Try.cells147 : Try.prog.cellsOf 147 = 1 := by kernel_rfl
@[simp] theorem Try.bytes147 : Try.prog.bytesOf 147 = 8 := by kernel_rfl
@[simp] theorem Try.zc147 : zcells Try.prog 147 = some [.nilfn] := by kernel_rfl
@[simp] theorem Try.zl147 : zlen Try.prog 147 = 1 := by kernel_rfl
@[simp] theorem Try.cells148 : Try.prog.cellsOf 148 = 1 := by kernel_rfl
@[simp] theorem Try.bytes148 : Try.prog.bytesOf 148 = 8 := by kernel_rfl
@[simp] theorem Try.zc148 : zcells Try.prog 148 = some [.nilfn] := by kernel_rfl
@[simp] theorem Try.zl148 : zlen Try.prog 148 = 1 := by kernel_rfl
@[simp] theorem Try.cells149 : Try.prog.cellsOf 149 = 1 := by kernel_rfl
@[simp] theorem Try.bytes149 : Try.prog.bytesOf 149 = 8 := by kernel_rfl
@[simp] theorem Try.zc149 : zcells Try.prog 149 = some [.nilfn] := by kernel_rfl
@[simp] theorem Try.zl149 : zlen Try.prog 149 = 1 := by kernel_rfl
@[simp] theorem Try.cells150 : Try.prog.cellsOf 150 = 1 := by kernel_rfl
@[simp] theorem Try.bytes150 : Try.prog.bytesOf 150 = 8 := by kernel_rfl
@[simp] theorem Try.zc150 : zcells Try.prog 150 = some [.nilfn] := by kernel_rfl
@[simp] theorem Try.zl150 : zlen Try.prog 150 = 1 := by kernel_rfl
@[simp] theorem Try.cells151 : Try.prog.cellsOf 151 = 1 := by kernel_rfl
@[simp] theorem Try.bytes151 : Try.prog.bytesOf 151 = 8 := by kernel_rfl
@[simp] theorem Try.zc151 : zcells Try.prog 151 = some [.nilfn] := by kernel_rfl
@[simp] theorem Try.zl151 : zlen Try.prog 151 = 1 := by kernel_rfl
@[simp] theorem Try.cells152 : Try.prog.cellsOf 152 = 1 := by kernel_rfl
@[simp] theorem Try.bytes152 : Try.prog.bytesOf 152 = 24 := by kernel_rfl
@[simp] theorem Try.zc152 : zcells Try.prog 152 = some [.nils] := by kernel_rfl
@[simp] theorem Try.zl152 : zlen Try.prog 152 = 1 := by kernel_rfl
@[simp] theorem Try.cells153 : Try.prog.cellsOf 153 = 1 := by kernel_rfl
@[simp] theorem Try.bytes153 : Try.prog.bytesOf 153 = 8 := by kernel_rfl
@[simp] theorem Try.zc153 : zcells Try.prog 153 = some [.nilfn] := by kernel_rfl
@[simp] theorem Try.zl153 : zlen Try.prog 153 = 1 := by kernel_rfl
@[simp] theorem Try.cells154 : Try.prog.cellsOf 154 = 1 := by kernel_rfl
@[simp] theorem Try.bytes154 : Try.prog.bytesOf 154 = 8 := by kernel_rfl
@[simp] theorem Try.zc154 : zcells Try.prog 154 = some [.nilfn] := by kernel_rfl
@[simp] theorem Try.zl154 : zlen Try.prog 154 = 1 := by kernel_rfl
@[simp] theorem Try.cells155 : Try.prog.cellsOf 155 = 1 := by kernel_rfl
@[simp] theorem Try.bytes155 : Try.prog.bytesOf 155 = 8 := by kernel_rfl
@[simp] theorem Try.zc155 : zcells Try.prog 155 = some [.nilfn] := by kernel_rfl
@[simp] theorem Try.zl155 : zlen Try.prog 155 = 1 := by kernel_rfl
@[simp] theorem Try.cells156 : Try.prog.cellsOf 156 = 1 := by kernel_rfl
@[simp] theorem Try.bytes156 : Try.prog.bytesOf 156 = 8 := by kernel_rfl
@[simp] theorem Try.zc156 : zcells Try.prog 156 = some [.nilfn] := by kernel_rfl
@[simp] theorem Try.zl156 : zlen Try.prog 156 = 1 := by kernel_rfl
@[simp] theorem Try.cells157 : Try.prog.cellsOf 157 = 4 := by kernel_rfl
@[simp] theorem Try.bytes157 : Try.prog.bytesOf 157 = 32 := by kernel_rfl
@[simp] theorem Try.zc157 : zcells Try.prog 157 = some [.int .u8 0, .int .u64 0, .int .u64 0, .int .i64 0] := by kernel_rfl
@[simp] theorem Try.zl157 : zlen Try.prog 157 = 4 := by kernel_rfl
@[simp] theorem Try.eqa157 (x0 y0 : Int) (x1 y1 : Int) (x2 y2 : Int) (x3 y3 : Int) : EqA Try.prog 157 [.int .u8 x0, .int .u64 x1, .int .u64 x2, .int .i64 x3] [.int .u8 y0, .int .u64 y1, .int .u64 y2, .int .i64 y3] :=
  EqA_of (l := [.int .u8, .int .u64, .int .u64, .int .i64]) 6 (by kernel_rfl) (by kernel_rfl) (by kernel_rfl) (by kernel_rfl) (by omega) (by simp [LSS, SSh]) (by simp [LSS, SSh])
@[simp] theorem Try.cells158 : Try.prog.cellsOf 158 = 4 := by kernel_rfl
@[simp] theorem Try.bytes158 : Try.prog.bytesOf 158 = 32 := by kernel_rfl
@[simp] theorem Try.zc158 : zcells Try.prog 158 = some [.int .u8 0, .int .u64 0, .int .u64 0, .int .i64 0] := by kernel_rfl
@[simp] theorem Try.zl158 : zlen Try.prog 158 = 4 := by kernel_rfl
@[simp] theorem Try.eqa158 (x0 y0 : Int) (x1 y1 : Int) (x2 y2 : Int) (x3 y3 : Int) : EqA Try.prog 158 [.int .u8 x0, .int .u64 x1, .int .u64 x2, .int .i64 x3] [.int .u8 y0, .int .u64 y1, .int .u64 y2, .int .i64 y3] :=
  EqA_of (l := [.int .u8, .int .u64, .int .u64, .int .i64]) 6 (by kernel_rfl) (by kernel_rfl) (by kernel_rfl) (by kernel_rfl) (by omega) (by simp [LSS, SSh]) (by simp [LSS, SSh])
@[simp] theorem Try.cells159 : Try.prog.cellsOf 159 = 1 := by kernel_rfl
@[simp] theorem Try.bytes159 : Try.prog.bytesOf 159 = 8 := by kernel_rfl
@[simp] theorem Try.zc159 : zcells Try.prog 159 = some [.nilfn] := by kernel_rfl
@[simp] theorem Try.zl159 : zlen Try.prog 159 = 1 := by kernel_rfl
@[simp] theorem Try.cells160 : Try.prog.cellsOf 160 = 1 := by kernel_rfl
@[simp] theorem Try.bytes160 : Try.prog.bytesOf 160 = 8 := by kernel_rfl
@[simp] theorem Try.zc160 : zcells Try.prog 160 = some [.nilfn] := by kernel_rfl
@[simp] theorem Try.zl160 : zlen Try.prog 160 = 1 := by kernel_rfl
@[simp] theorem Try.cells161 : Try.prog.cellsOf 161 = 1 := by kernel_rfl
@[simp] theorem Try.bytes161 : Try.prog.bytesOf 161 = 8 := by kernel_rfl
@[simp] theorem Try.zc161 : zcells Try.prog 161 = some [.nilfn] := by kernel_rfl
@[simp] theorem Try.zl161 : zlen Try.prog 161 = 1 := by kernel_rfl
@[simp] theorem Try.cells162 : Try.prog.cellsOf 162 = 1 := by kernel_rfl
@[simp] theorem Try.bytes162 : Try.prog.bytesOf 162 = 8 := by kernel_rfl
@[simp] theorem Try.zc162 : zcells Try.prog 162 = some [.nilfn] := by kernel_rfl
@[simp] theorem Try.zl162 : zlen Try.prog 162 = 1 := by kernel_rfl
@[simp] theorem Try.cells163 : Try.prog.cellsOf 163 = 1 := by kernel_rfl
@[simp] theorem Try.bytes163 : Try.prog.bytesOf 163 = 8 := by kernel_rfl
@[simp] theorem Try.zc163 : zcells Try.prog 163 = some [.nilfn] := by kernel_rfl
@[simp] theorem Try.zl163 : zlen Try.prog 163 = 1 := by kernel_rfl
@[simp] theorem Try.cells164 : Try.prog.cellsOf 164 = 4 := by kernel_rfl
@[simp] theorem Try.bytes164 : Try.prog.bytesOf 164 = 40 := by kernel_rfl
@[simp] theorem Try.zc164 : zcells Try.prog 164 = some [.nilp, .nilp, .nilp, .str ByteArray.empty] := by kernel_rfl
@[simp] theorem Try.zl164 : zlen Try.prog 164 = 4 := by kernel_rfl
@[simp] theorem Try.cells165 : Try.prog.cellsOf 165 = 4 := by kernel_rfl
@[simp] theorem Try.bytes165 : Try.prog.bytesOf 165 = 40 := by kernel_rfl
@[simp] theorem Try.zc165 : zcells Try.prog 165 = some [.nilp, .nilp, .nilp, .str ByteArray.empty] := by kernel_rfl
@[simp] theorem Try.zl165 : zlen Try.prog 165 = 4 := by kernel_rfl
@[simp] theorem Try.cells166 : Try.prog.cellsOf 166 = 0 := by kernel_rfl
@[simp] theorem Try.bytes166 : Try.prog.bytesOf 166 = 0 := by kernel_rfl
@[simp] theorem Try.zc166 : zcells Try.prog 166 = some [] := by kernel_rfl
@[simp] theorem Try.zl166 : zlen Try.prog 166 = 0 := by kernel_rfl
@[simp] theorem Try.cells167 : Try.prog.cellsOf 167 = 0 := by kernel_rfl
@[simp] theorem Try.bytes167 : Try.prog.bytesOf 167 = 0 := by kernel_rfl
@[simp] theorem Try.zc167 : zcells Try.prog 167 = some [] := by kernel_rfl
@[simp] theorem Try.zl167 : zlen Try.prog 167 = 0 := by kernel_rfl
@[simp] theorem Try.cells168 : Try.prog.cellsOf 168 = 0 := by kernel_rfl
@[simp] theorem Try.bytes168 : Try.prog.bytesOf 168 = 0 := by kernel_rfl
@[simp] theorem Try.zc168 : zcells Try.prog 168 = some [] := by kernel_rfl
@[simp] theorem Try.zl168 : zlen Try.prog 168 = 0 := by kernel_rfl
@[simp] theorem Try.cells169 : Try.prog.cellsOf 169 = 1 := by kernel_rfl
@[simp] theorem Try.bytes169 : Try.prog.bytesOf 169 = 8 := by kernel_rfl
@[simp] theorem Try.zc169 : zcells Try.prog 169 = some [.nilfn] := by kernel_rfl
@[simp] theorem Try.zl169 : zlen Try.prog 169 = 1 := by kernel_rfl
@[simp] theorem Try.cells170 : Try.prog.cellsOf 170 = 1 := by kernel_rfl
@[simp] theorem Try.bytes170 : Try.prog.bytesOf 170 = 1 := by kernel_rfl
@[simp] theorem Try.zc170 : zcells Try.prog 170 = some [.int .u8 0] := by kernel_rfl
@[simp] theorem Try.zl170 : zlen Try.prog 170 = 1 := by kernel_rfl
@[simp] theorem Try.cells171 : Try.prog.cellsOf 171 = 1 := by kernel_rfl
@[simp] theorem Try.bytes171 : Try.prog.bytesOf 171 = 1 := by kernel_rfl
@[simp] theorem Try.zc171 : zcells Try.prog 171 = some [.int .u8 0] := by kernel_rfl
@[simp] theorem Try.zl171 : zlen Try.prog 171 = 1 := by kernel_rfl
@[simp] theorem Try.cells172 : Try.prog.cellsOf 172 = 1 := by kernel_rfl
@[simp] theorem Try.bytes172 : Try.prog.bytesOf 172 = 8 := by kernel_rfl
@[simp] theorem Try.zc172 : zcells Try.prog 172 = some [.nilfn] := by kernel_rfl
@[simp] theorem Try.zl172 : zlen Try.prog 172 = 1 := by kernel_rfl
@[simp] theorem Try.cells173 : Try.prog.cellsOf 173 = 1 := by kernel_rfl
@[simp] theorem Try.bytes173 : Try.prog.bytesOf 173 = 8 := by kernel_rfl
@[simp] theorem Try.zc173 : zcells Try.prog 173 = some [.nilp] := by kernel_rfl
@[simp] theorem Try.zl173 : zlen Try.prog 173 = 1 := by kernel_rfl
@[simp] theorem Try.cells174 : Try.prog.cellsOf 174 = 1 := by kernel_rfl
@[simp] theorem Try.bytes174 : Try.prog.bytesOf 174 = 4 := by kernel_rfl
@[simp] theorem Try.zc174 : zcells Try.prog 174 = some [.int .i32 0] := by kernel_rfl
@[simp] theorem Try.zl174 : zlen Try.prog 174 = 1 := by kernel_rfl
@[simp] theorem Try.cells175 : Try.prog.cellsOf 175 = 1 := by kernel_rfl
@[simp] theorem Try.bytes175 : Try.prog.bytesOf 175 = 4 := by kernel_rfl
@[simp] theorem Try.zc175 : zcells Try.prog 175 = some [.int .i32 0] := by kernel_rfl
@[simp] theorem Try.zl175 : zlen Try.prog 175 = 1 := by kernel_rfl
@[simp] theorem Try.cells176 : Try.prog.cellsOf 176 = 11 := by kernel_rfl
@[simp] theorem Try.bytes176 : Try.prog.bytesOf 176 = 48 := by kernel_rfl
@[simp] theorem Try.zc176 : zcells Try.prog 176 = some [.int .u64 0, .int .u64 0, .int .u32 0, .int .u8 0, .int .u8 0, .int .u8 0, .int .u8 0, .nilfn, .nilp, .int .i32 0, .int .i32 0] := by kernel_rfl
@[simp] theorem Try.zl176 : zlen Try.prog 176 = 11 := by kernel_rfl
@[simp] theorem Try.cells177 : Try.prog.cellsOf 177 = 11 := by kernel_rfl
@[simp] theorem Try.bytes177 : Try.prog.bytesOf 177 = 48 := by kernel_rfl
@[simp] theorem Try.zc177 : zcells Try.prog 177 = some [.int .u64 0, .int .u64 0, .int .u32 0, .int .u8 0, .int .u8 0, .int .u8 0, .int .u8 0, .nilfn, .nilp, .int .i32 0, .int .i32 0] := by kernel_rfl
@[simp] theorem Try.zl177 : zlen Try.prog 177 = 11 := by kernel_rfl
@[simp] theorem Try.cells178 : Try.prog.cellsOf 178 = 1 := by kernel_rfl
@[simp] theorem Try.bytes178 : Try.prog.bytesOf 178 = 8 := by kernel_rfl
@[simp] theorem Try.zc178 : zcells Try.prog 178 = some [.nilp] := by kernel_rfl
@[simp] theorem Try.zl178 : zlen Try.prog 178 = 1 := by kernel_rfl

theorem mixed : Try.prog.follows .mixedOrders = true := by kernel_rfl
instance : Gl Try.prog := ⟨fun _ => .junk, fun _ => rfl⟩

end Go.Proofs.Ytkcmgjagjbiinaa.AL
namespace Go.Proofs.Ytkcmgjagjbiinaa.AL
open Go
attribute [local simp] qf cv qbin ibin sbin qun retPost rvOk ctV ctPost marksOk retV resAll resOf V.lt ltL V.ren renL V.exp V.exp1 cleanL V.clean closedL V.closed V.cells V.one V.tree
  loadV cellsAt isNC nilQ isSlD isIfD slNew ownRows ownCells V.isOwn slStore srcO qlook mlook mget mstr zval qnone qmake mput lmap isAggD placesOf fillV putCells lstore bound seqParts V.sh shL Blk.sh newV V.ok peqs peq srcRows qbytes byteSl appOk mmV mmR hidE V.fz fzL Blk.fz fzOk and_assoc
attribute [-simp] Int.not_le Int.not_lt Nat.not_le Nat.not_lt
def cAddr (f h l : Int) : Bool := f == 6 || (f == 4 && h == 0 && decide (l < 4294967296))
def wid (f : Int) : Int := if f = 4 then 32 else if f = 6 then 128 else 0
def SWid : List V → Option Res
  | [.int .u8 f] => some ⟨.int .i64 (wid f), []⟩
  | _ => none
def SAddr : List V → Option Res
  | [.int .u8 f, .agg [.int .u64 h, .int .u64 l]] => some ⟨.bool (cAddr f h l), []⟩
  | _ => none
theorem runs_ref01_Width : ∀ args r, SWid args = some r → Runs Try.prog 102 args r := by
  intro args r h
  unfold SWid at h
  split at h
  · rename_i f
    cases h
    refine Runs.of_body Try.func102 (by decide) rfl (by simp [Try.f102]) (W.of_WE (T0_ok _) (by kernel_rfl) M0 _ (by kernel_rfl) ?_)
    simp +contextual [Try.f102, wid]
    try grind
  · cases h
theorem runs_number_CheckAddr : ∀ args r, SAddr args = some r → Runs Try.prog 98 args r := by
  intro args r h
  unfold SAddr at h
  split at h
  · rename_i f h l
    cases h
    refine Runs.of_body Try.func98 (by decide) rfl (by simp [Try.f98]) (W.of_WE (T0_ok _) (by kernel_rfl) M0 _ (by kernel_rfl) ?_)
    simp +contextual [Try.f98, cAddr]
    try grind
  · cases h
theorem runs_ref01_CheckAddr : ∀ args r, SAddr args = some r → Runs Try.prog 88 args r := by
  intro args r h
  unfold SAddr at h
  split at h
  · rename_i f h l
    cases h
    refine Runs.of_body Try.func88 (by decide) rfl (by simp [Try.f88]) (W.of_WE (T0_ok _) (by kernel_rfl) M0 _ (by kernel_rfl) ?_)
    simp +contextual [Try.f88, cAddr]
    try grind
  · cases h

end Go.Proofs.Ytkcmgjagjbiinaa.AL
namespace Go.Proofs.Ytkcmgjagjbiinaa.AL
open Go
attribute [local simp] qf cv qbin ibin sbin qun retPost rvOk ctV ctPost marksOk retV resAll resOf V.lt ltL V.ren renL V.exp V.exp1 cleanL V.clean closedL V.closed V.cells V.one V.tree
  loadV cellsAt isNC nilQ isSlD isIfD slNew ownRows ownCells V.isOwn slStore srcO qlook mlook mget mstr zval qnone qmake mput lmap isAggD placesOf fillV putCells lstore bound seqParts V.sh shL Blk.sh newV V.ok peqs peq srcRows qbytes byteSl appOk mmV mmR hidE V.fz fzL Blk.fz fzOk and_assoc
attribute [-simp] Int.not_le Int.not_lt Nat.not_le Nat.not_lt
def goodC (c : Int) : Bool := (decide (97 ≤ c) && decide (c ≤ 122)) || (decide (65 ≤ c) && decide (c ≤ 90)) || (decide (48 ≤ c) && decide (c ≤ 57)) || decide (c = 45) || decide (c = 95)
def SGood : List V → Option Res
  | [.int .u8 c] => some ⟨.bool (goodC c), []⟩
  | _ => none
theorem runs_number_Name_1 : ∀ args r, SGood args = some r → Runs Try.prog 84 args r := by
  intro args r h
  unfold SGood at h
  split at h
  · rename_i c
    cases h
    refine Runs.of_body Try.func84 (by decide) rfl (by simp [Try.f84]) (W.of_WE (T0_ok _) (by kernel_rfl) M0 _ (by kernel_rfl) ?_)
    simp +contextual (maxSteps := 1000000) [Try.f84]
    simp [goodC]
    repeat' (first | apply And.intro | intro _)
    all_goals (first | omega | (apply propext; omega))
  · cases h
def SNan : List V → Option Res
  | [.int .u64 c] => some ⟨.bool false, []⟩
  | _ => none
theorem runs_cmp_isNaN_uint64_ : ∀ args r, SNan args = some r → Runs Try.prog 109 args r := by
  intro args r h
  unfold SNan at h
  split at h
  · rename_i c
    cases h
    refine Runs.of_body Try.func109 (by decide) rfl (by simp [Try.f109]) (W.of_WE (T0_ok _) (by kernel_rfl) M0 _ (by kernel_rfl) ?_)
    simp +contextual [Try.f109]
  · cases h
def cmpI (a b : Int) : Int := if a < b then -1 else if a > b then 1 else 0
def SCmp : List V → Option Res
  | [.int .u64 a, .int .u64 b] => some ⟨.int .i64 (cmpI a b), []⟩
  | _ => none
theorem runs_cmp_Compare_uint64_ : ∀ args r, SCmp args = some r → Runs Try.prog 95 args r := by
  intro args r h
  unfold SCmp at h
  split at h
  · rename_i c
    cases h
    refine Runs.of_body Try.func95 (by decide) rfl (by simp [Try.f95]) (W.of_WE (T := T0.add 109 SNan) (Tab.add_ok (T0_ok _) runs_cmp_isNaN_uint64_) (by kernel_rfl) M0 _ (by kernel_rfl) ?_)
    simp +contextual [Try.f95, SNan]
    simp only [cmpI]
    grind
  · cases h
def cmpA (a b c d : Int) : Int := if a = c ∧ b = d then 0 else if a < c ∨ (a = c ∧ b < d) then -1 else 1
def SCompare : List V → Option Res
  | [.agg [.int .u64 a, .int .u64 b], .agg [.int .u64 c, .int .u64 d]] => some ⟨.int .i64 (cmpA a b c d), []⟩
  | _ => none
theorem runs_number_Compare : ∀ args r, SCompare args = some r → Runs Try.prog 79 args r := by
  intro args r h
  unfold SCompare at h
  split at h
  · rename_i c
    cases h
    refine Runs.of_body Try.func79 (by decide) rfl (by simp [Try.f79]) (W.of_WE (T := T0.add 95 SCmp) (Tab.add_ok (T0_ok _) runs_cmp_Compare_uint64_) (by kernel_rfl) M0 _ (by kernel_rfl) ?_)
    simp +contextual [Try.f79, SCmp]
    simp only [cmpI, cmpA]
    grind
  · cases h
theorem runs_ref01_Compare : ∀ args r, SCompare args = some r → Runs Try.prog 73 args r := by
  intro args r h
  unfold SCompare at h
  split at h
  · rename_i c
    cases h
    refine Runs.of_body Try.func73 (by decide) rfl (by simp [Try.f73]) (W.of_WE (T0_ok _) (by kernel_rfl) M0 _ (by kernel_rfl) ?_)
    simp +contextual (maxSteps := 1000000) [Try.f73]
    simp only [cmpA]
    grind
  · cases h

end Go.Proofs.Ytkcmgjagjbiinaa.AL
