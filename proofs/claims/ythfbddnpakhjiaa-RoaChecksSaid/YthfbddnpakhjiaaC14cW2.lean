import Derived.Test.YthfbddnpakhjiaaC14cW1
import Derived.Test.YthfbddnpakhjiaaProg
/- What single functions compute: a part of the proof; no conditions. -/
set_option linter.unusedVariables false
set_option linter.unusedSimpArgs false
set_option maxRecDepth 100000
namespace Go.Proofs.Ythfbddnpakhjiaa.AL
open Go
attribute [local simp] qf cv qbin ibin sbin qun retPost rvOk ctV ctPost marksOk retV resAll resOf V.lt ltL V.ren renL V.exp V.exp1 cleanL V.clean closedL V.closed V.cells V.one V.tree
  loadV cellsAt isNC nilQ isSlD isIfD slNew ownRows ownCells V.isOwn slStore srcO qlook mlook mget mstr zval qnone qmake mput lmap isAggD placesOf fillV putCells lstore bound seqParts V.sh shL Blk.sh newV V.ok peqs peq srcRows appOk mmV mmR hidE V.fz fzL Blk.fz fzOk and_assoc
attribute [-simp] Int.not_le Int.not_lt Nat.not_le Nat.not_lt
@[simp] theorem Try.cells1 : Try.prog.cellsOf 1 = 1 := by kernel_rfl
@[simp] theorem Try.bytes1 : Try.prog.bytesOf 1 = 8 := by kernel_rfl
@[simp] theorem Try.zc1 : zcells Try.prog 1 = some [.nilfn] := by kernel_rfl
@[simp] theorem Try.zl1 : zlen Try.prog 1 = 1 := by kernel_rfl
@[simp] theorem Try.cells2 : Try.prog.cellsOf 2 = 1 := by kernel_rfl
@[simp] theorem Try.bytes2 : Try.prog.bytesOf 2 = 8 := by kernel_rfl
@[simp] theorem Try.zc2 : zcells Try.prog 2 = some [.int .i64 0] := by kernel_rfl
@[simp] theorem Try.zl2 : zlen Try.prog 2 = 1 := by kernel_rfl
@[simp] theorem Try.cells3 : Try.prog.cellsOf 3 = 1 := by kernel_rfl
@[simp] theorem Try.bytes3 : Try.prog.bytesOf 3 = 8 := by kernel_rfl
@[simp] theorem Try.zc3 : zcells Try.prog 3 = some [.int .i64 0] := by kernel_rfl
@[simp] theorem Try.zl3 : zlen Try.prog 3 = 1 := by kernel_rfl
@[simp] theorem Try.cells4 : Try.prog.cellsOf 4 = 1 := by kernel_rfl
@[simp] theorem Try.bytes4 : Try.prog.bytesOf 4 = 1 := by kernel_rfl
@[simp] theorem Try.zc4 : zcells Try.prog 4 = some [.bool false] := by kernel_rfl
@[simp] theorem Try.zl4 : zlen Try.prog 4 = 1 := by kernel_rfl
@[simp] theorem Try.cells5 : Try.prog.cellsOf 5 = 1 := by kernel_rfl
@[simp] theorem Try.bytes5 : Try.prog.bytesOf 5 = 1 := by kernel_rfl
@[simp] theorem Try.zc5 : zcells Try.prog 5 = some [.int .u8 0] := by kernel_rfl
@[simp] theorem Try.zl5 : zlen Try.prog 5 = 1 := by kernel_rfl
@[simp] theorem Try.cells6 : Try.prog.cellsOf 6 = 1 := by kernel_rfl
@[simp] theorem Try.bytes6 : Try.prog.bytesOf 6 = 1 := by kernel_rfl
@[simp] theorem Try.zc6 : zcells Try.prog 6 = some [.int .u8 0] := by kernel_rfl
@[simp] theorem Try.zl6 : zlen Try.prog 6 = 1 := by kernel_rfl
@[simp] theorem Try.cells7 : Try.prog.cellsOf 7 = 4 := by kernel_rfl
@[simp] theorem Try.bytes7 : Try.prog.bytesOf 7 = 24 := by kernel_rfl
@[simp] theorem Try.zc7 : zcells Try.prog 7 = some [.int .i64 0, .int .i64 0, .bool false, .int .u8 0] := by kernel_rfl
@[simp] theorem Try.zl7 : zlen Try.prog 7 = 4 := by kernel_rfl
@[simp] theorem Try.eqa7 (x0 y0 : Int) (x1 y1 : Int) (x2 y2 : Bool) (x3 y3 : Int) : EqA Try.prog 7 [.int .i64 x0, .int .i64 x1, .bool x2, .int .u8 x3] [.int .i64 y0, .int .i64 y1, .bool y2, .int .u8 y3] :=
  EqA_of (l := [.int .i64, .int .i64, .bool, .int .u8]) 6 (by kernel_rfl) (by kernel_rfl) (by kernel_rfl) (by kernel_rfl) (by omega) (by simp [LSS, SSh]) (by simp [LSS, SSh])
@[simp] theorem Try.cells8 : Try.prog.cellsOf 8 = 4 := by kernel_rfl
@[simp] theorem Try.bytes8 : Try.prog.bytesOf 8 = 24 := by kernel_rfl
@[simp] theorem Try.zc8 : zcells Try.prog 8 = some [.int .i64 0, .int .i64 0, .bool false, .int .u8 0] := by kernel_rfl
@[simp] theorem Try.zl8 : zlen Try.prog 8 = 4 := by kernel_rfl
@[simp] theorem Try.eqa8 (x0 y0 : Int) (x1 y1 : Int) (x2 y2 : Bool) (x3 y3 : Int) : EqA Try.prog 8 [.int .i64 x0, .int .i64 x1, .bool x2, .int .u8 x3] [.int .i64 y0, .int .i64 y1, .bool y2, .int .u8 y3] :=
  EqA_of (l := [.int .i64, .int .i64, .bool, .int .u8]) 6 (by kernel_rfl) (by kernel_rfl) (by kernel_rfl) (by kernel_rfl) (by omega) (by simp [LSS, SSh]) (by simp [LSS, SSh])
@[simp] theorem Try.cells9 : Try.prog.cellsOf 9 = 1 := by kernel_rfl
@[simp] theorem Try.bytes9 : Try.prog.bytesOf 9 = 16 := by kernel_rfl
@[simp] theorem Try.zc9 : zcells Try.prog 9 = some [.str ByteArray.empty] := by kernel_rfl
@[simp] theorem Try.zl9 : zlen Try.prog 9 = 1 := by kernel_rfl
@[simp] theorem Try.cells10 : Try.prog.cellsOf 10 = 1 := by kernel_rfl
@[simp] theorem Try.bytes10 : Try.prog.bytesOf 10 = 16 := by kernel_rfl
@[simp] theorem Try.zc10 : zcells Try.prog 10 = some [.str ByteArray.empty] := by kernel_rfl
@[simp] theorem Try.zl10 : zlen Try.prog 10 = 1 := by kernel_rfl
@[simp] theorem Try.cells11 : Try.prog.cellsOf 11 = 1 := by kernel_rfl
@[simp] theorem Try.bytes11 : Try.prog.bytesOf 11 = 16 := by kernel_rfl
@[simp] theorem Try.zc11 : zcells Try.prog 11 = some [.str ByteArray.empty] := by kernel_rfl
@[simp] theorem Try.zl11 : zlen Try.prog 11 = 1 := by kernel_rfl
@[simp] theorem Try.cells12 : Try.prog.cellsOf 12 = 1 := by kernel_rfl
@[simp] theorem Try.bytes12 : Try.prog.bytesOf 12 = 8 := by kernel_rfl
@[simp] theorem Try.zc12 : zcells Try.prog 12 = some [.int .u64 0] := by kernel_rfl
@[simp] theorem Try.zl12 : zlen Try.prog 12 = 1 := by kernel_rfl
@[simp] theorem Try.cells13 : Try.prog.cellsOf 13 = 2 := by kernel_rfl
@[simp] theorem Try.bytes13 : Try.prog.bytesOf 13 = 24 := by kernel_rfl
@[simp] theorem Try.zc13 : zcells Try.prog 13 = some [.str ByteArray.empty, .int .u64 0] := by kernel_rfl
@[simp] theorem Try.zl13 : zlen Try.prog 13 = 2 := by kernel_rfl
@[simp] theorem Try.cells14 : Try.prog.cellsOf 14 = 2 := by kernel_rfl
@[simp] theorem Try.bytes14 : Try.prog.bytesOf 14 = 24 := by kernel_rfl
@[simp] theorem Try.zc14 : zcells Try.prog 14 = some [.str ByteArray.empty, .int .u64 0] := by kernel_rfl
@[simp] theorem Try.zl14 : zlen Try.prog 14 = 2 := by kernel_rfl
@[simp] theorem Try.cells15 : Try.prog.cellsOf 15 = 1 := by kernel_rfl
@[simp] theorem Try.bytes15 : Try.prog.bytesOf 15 = 8 := by kernel_rfl
@[simp] theorem Try.zc15 : zcells Try.prog 15 = some [.nilp] := by kernel_rfl
@[simp] theorem Try.zl15 : zlen Try.prog 15 = 1 := by kernel_rfl
@[simp] theorem Try.cells16 : Try.prog.cellsOf 16 = 1 := by kernel_rfl
@[simp] theorem Try.bytes16 : Try.prog.bytesOf 16 = 8 := by kernel_rfl
@[simp] theorem Try.zc16 : zcells Try.prog 16 = some [.nilp] := by kernel_rfl
@[simp] theorem Try.zl16 : zlen Try.prog 16 = 1 := by kernel_rfl
@[simp] theorem Try.cells17 : Try.prog.cellsOf 17 = 1 := by kernel_rfl
@[simp] theorem Try.bytes17 : Try.prog.bytesOf 17 = 8 := by kernel_rfl
@[simp] theorem Try.zc17 : zcells Try.prog 17 = some [.nilp] := by kernel_rfl
@[simp] theorem Try.zl17 : zlen Try.prog 17 = 1 := by kernel_rfl
@[simp] theorem Try.cells18 : Try.prog.cellsOf 18 = 1 := by kernel_rfl
@[simp] theorem Try.bytes18 : Try.prog.bytesOf 18 = 8 := by kernel_rfl
@[simp] theorem Try.zc18 : zcells Try.prog 18 = some [.nilp] := by kernel_rfl
@[simp] theorem Try.zl18 : zlen Try.prog 18 = 1 := by kernel_rfl
@[simp] theorem Try.cells19 : Try.prog.cellsOf 19 = 1 := by kernel_rfl
@[simp] theorem Try.bytes19 : Try.prog.bytesOf 19 = 8 := by kernel_rfl
@[simp] theorem Try.zc19 : zcells Try.prog 19 = some [.nilp] := by kernel_rfl
@[simp] theorem Try.zl19 : zlen Try.prog 19 = 1 := by kernel_rfl
@[simp] theorem Try.cells20 : Try.prog.cellsOf 20 = 1 := by kernel_rfl
@[simp] theorem Try.bytes20 : Try.prog.bytesOf 20 = 16 := by kernel_rfl
@[simp] theorem Try.zc20 : zcells Try.prog 20 = some [.nilif] := by kernel_rfl
@[simp] theorem Try.zl20 : zlen Try.prog 20 = 1 := by kernel_rfl
@[simp] theorem Try.cells21 : Try.prog.cellsOf 21 = 1 := by kernel_rfl
@[simp] theorem Try.bytes21 : Try.prog.bytesOf 21 = 4 := by kernel_rfl
@[simp] theorem Try.zc21 : zcells Try.prog 21 = some [.int .i32 0] := by kernel_rfl
@[simp] theorem Try.zl21 : zlen Try.prog 21 = 1 := by kernel_rfl
@[simp] theorem Try.cells22 : Try.prog.cellsOf 22 = 1 := by kernel_rfl
@[simp] theorem Try.bytes22 : Try.prog.bytesOf 22 = 4 := by kernel_rfl
@[simp] theorem Try.zc22 : zcells Try.prog 22 = some [.int .u32 0] := by kernel_rfl
@[simp] theorem Try.zl22 : zlen Try.prog 22 = 1 := by kernel_rfl
@[simp] theorem Try.cells23 : Try.prog.cellsOf 23 = 1 := by kernel_rfl
@[simp] theorem Try.bytes23 : Try.prog.bytesOf 23 = 24 := by kernel_rfl
@[simp] theorem Try.zc23 : zcells Try.prog 23 = some [.nils] := by kernel_rfl
@[simp] theorem Try.zl23 : zlen Try.prog 23 = 1 := by kernel_rfl
@[simp] theorem Try.cells24 : Try.prog.cellsOf 24 = 2 := by kernel_rfl
@[simp] theorem Try.bytes24 : Try.prog.bytesOf 24 = 32 := by kernel_rfl
@[simp] theorem Try.zc24 : zcells Try.prog 24 = some [.int .u32 0, .nils] := by kernel_rfl
@[simp] theorem Try.zl24 : zlen Try.prog 24 = 2 := by kernel_rfl
@[simp] theorem Try.cells25 : Try.prog.cellsOf 25 = 2 := by kernel_rfl
@[simp] theorem Try.bytes25 : Try.prog.bytesOf 25 = 32 := by kernel_rfl
@[simp] theorem Try.zc25 : zcells Try.prog 25 = some [.int .u32 0, .nils] := by kernel_rfl
@[simp] theorem Try.zl25 : zlen Try.prog 25 = 2 := by kernel_rfl
@[simp] theorem Try.cells26 : Try.prog.cellsOf 26 = 1 := by kernel_rfl
@[simp] theorem Try.bytes26 : Try.prog.bytesOf 26 = 8 := by kernel_rfl
@[simp] theorem Try.zc26 : zcells Try.prog 26 = some [.int .u64 0] := by kernel_rfl
@[simp] theorem Try.zl26 : zlen Try.prog 26 = 1 := by kernel_rfl
@[simp] theorem Try.cells27 : Try.prog.cellsOf 27 = 2 := by kernel_rfl
@[simp] theorem Try.bytes27 : Try.prog.bytesOf 27 = 16 := by kernel_rfl
@[simp] theorem Try.zc27 : zcells Try.prog 27 = some [.int .u64 0, .int .u64 0] := by kernel_rfl
@[simp] theorem Try.zl27 : zlen Try.prog 27 = 2 := by kernel_rfl
@[simp] theorem Try.eqa27 (x0 y0 : Int) (x1 y1 : Int) : EqA Try.prog 27 [.int .u64 x0, .int .u64 x1] [.int .u64 y0, .int .u64 y1] :=
  EqA_of (l := [.int .u64, .int .u64]) 6 (by kernel_rfl) (by kernel_rfl) (by kernel_rfl) (by kernel_rfl) (by omega) (by simp [LSS, SSh]) (by simp [LSS, SSh])
@[simp] theorem Try.cells28 : Try.prog.cellsOf 28 = 2 := by kernel_rfl
@[simp] theorem Try.bytes28 : Try.prog.bytesOf 28 = 16 := by kernel_rfl
@[simp] theorem Try.zc28 : zcells Try.prog 28 = some [.int .u64 0, .int .u64 0] := by kernel_rfl
@[simp] theorem Try.zl28 : zlen Try.prog 28 = 2 := by kernel_rfl
@[simp] theorem Try.eqa28 (x0 y0 : Int) (x1 y1 : Int) : EqA Try.prog 28 [.int .u64 x0, .int .u64 x1] [.int .u64 y0, .int .u64 y1] :=
  EqA_of (l := [.int .u64, .int .u64]) 6 (by kernel_rfl) (by kernel_rfl) (by kernel_rfl) (by kernel_rfl) (by omega) (by simp [LSS, SSh]) (by simp [LSS, SSh])
@[simp] theorem Try.cells29 : Try.prog.cellsOf 29 = 4 := by kernel_rfl
@[simp] theorem Try.bytes29 : Try.prog.bytesOf 29 = 32 := by kernel_rfl
@[simp] theorem Try.zc29 : zcells Try.prog 29 = some [.int .u8 0, .int .u64 0, .int .u64 0, .int .i64 0] := by kernel_rfl
@[simp] theorem Try.zl29 : zlen Try.prog 29 = 4 := by kernel_rfl
@[simp] theorem Try.eqa29 (x0 y0 : Int) (x1 y1 : Int) (x2 y2 : Int) (x3 y3 : Int) : EqA Try.prog 29 [.int .u8 x0, .int .u64 x1, .int .u64 x2, .int .i64 x3] [.int .u8 y0, .int .u64 y1, .int .u64 y2, .int .i64 y3] :=
  EqA_of (l := [.int .u8, .int .u64, .int .u64, .int .i64]) 6 (by kernel_rfl) (by kernel_rfl) (by kernel_rfl) (by kernel_rfl) (by omega) (by simp [LSS, SSh]) (by simp [LSS, SSh])
@[simp] theorem Try.cells30 : Try.prog.cellsOf 30 = 4 := by kernel_rfl
@[simp] theorem Try.bytes30 : Try.prog.bytesOf 30 = 32 := by kernel_rfl
@[simp] theorem Try.zc30 : zcells Try.prog 30 = some [.int .u8 0, .int .u64 0, .int .u64 0, .int .i64 0] := by kernel_rfl
@[simp] theorem Try.zl30 : zlen Try.prog 30 = 4 := by kernel_rfl
@[simp] theorem Try.eqa30 (x0 y0 : Int) (x1 y1 : Int) (x2 y2 : Int) (x3 y3 : Int) : EqA Try.prog 30 [.int .u8 x0, .int .u64 x1, .int .u64 x2, .int .i64 x3] [.int .u8 y0, .int .u64 y1, .int .u64 y2, .int .i64 y3] :=
  EqA_of (l := [.int .u8, .int .u64, .int .u64, .int .i64]) 6 (by kernel_rfl) (by kernel_rfl) (by kernel_rfl) (by kernel_rfl) (by omega) (by simp [LSS, SSh]) (by simp [LSS, SSh])
@[simp] theorem Try.cells31 : Try.prog.cellsOf 31 = 1 := by kernel_rfl
@[simp] theorem Try.bytes31 : Try.prog.bytesOf 31 = 8 := by kernel_rfl
@[simp] theorem Try.zc31 : zcells Try.prog 31 = some [.nilfn] := by kernel_rfl
@[simp] theorem Try.zl31 : zlen Try.prog 31 = 1 := by kernel_rfl
@[simp] theorem Try.cells32 : Try.prog.cellsOf 32 = 1 := by kernel_rfl
@[simp] theorem Try.bytes32 : Try.prog.bytesOf 32 = 8 := by kernel_rfl
@[simp] theorem Try.zc32 : zcells Try.prog 32 = some [.int .i64 0] := by kernel_rfl
@[simp] theorem Try.zl32 : zlen Try.prog 32 = 1 := by kernel_rfl
@[simp] theorem Try.cells34 : Try.prog.cellsOf 34 = 1 := by kernel_rfl
@[simp] theorem Try.bytes34 : Try.prog.bytesOf 34 = 8 := by kernel_rfl
@[simp] theorem Try.zc34 : zcells Try.prog 34 = some [.nilfn] := by kernel_rfl
@[simp] theorem Try.zl34 : zlen Try.prog 34 = 1 := by kernel_rfl
@[simp] theorem Try.cells36 : Try.prog.cellsOf 36 = 1 := by kernel_rfl
@[simp] theorem Try.bytes36 : Try.prog.bytesOf 36 = 8 := by kernel_rfl
@[simp] theorem Try.zc36 : zcells Try.prog 36 = some [.nilfn] := by kernel_rfl
@[simp] theorem Try.zl36 : zlen Try.prog 36 = 1 := by kernel_rfl
@[simp] theorem Try.cells37 : Try.prog.cellsOf 37 = 1 := by kernel_rfl
@[simp] theorem Try.bytes37 : Try.prog.bytesOf 37 = 8 := by kernel_rfl
@[simp] theorem Try.zc37 : zcells Try.prog 37 = some [.nilfn] := by kernel_rfl
@[simp] theorem Try.zl37 : zlen Try.prog 37 = 1 := by kernel_rfl
@[simp] theorem Try.cells38 : Try.prog.cellsOf 38 = 1 := by kernel_rfl
@[simp] theorem Try.bytes38 : Try.prog.bytesOf 38 = 24 := by kernel_rfl
@[simp] theorem Try.zc38 : zcells Try.prog 38 = some [.nils] := by kernel_rfl
@[simp] theorem Try.zl38 : zlen Try.prog 38 = 1 := by kernel_rfl
@[simp] theorem Try.cells40 : Try.prog.cellsOf 40 = 1 := by kernel_rfl
@[simp] theorem Try.bytes40 : Try.prog.bytesOf 40 = 8 := by kernel_rfl
@[simp] theorem Try.zc40 : zcells Try.prog 40 = some [.nilfn] := by kernel_rfl
@[simp] theorem Try.zl40 : zlen Try.prog 40 = 1 := by kernel_rfl
@[simp] theorem Try.cells42 : Try.prog.cellsOf 42 = 1 := by kernel_rfl
@[simp] theorem Try.bytes42 : Try.prog.bytesOf 42 = 8 := by kernel_rfl
@[simp] theorem Try.zc42 : zcells Try.prog 42 = some [.nilfn] := by kernel_rfl
@[simp] theorem Try.zl42 : zlen Try.prog 42 = 1 := by kernel_rfl
@[simp] theorem Try.cells44 : Try.prog.cellsOf 44 = 1 := by kernel_rfl
@[simp] theorem Try.bytes44 : Try.prog.bytesOf 44 = 8 := by kernel_rfl
@[simp] theorem Try.zc44 : zcells Try.prog 44 = some [.nilfn] := by kernel_rfl
@[simp] theorem Try.zl44 : zlen Try.prog 44 = 1 := by kernel_rfl
@[simp] theorem Try.cells46 : Try.prog.cellsOf 46 = 1 := by kernel_rfl
@[simp] theorem Try.bytes46 : Try.prog.bytesOf 46 = 8 := by kernel_rfl
@[simp] theorem Try.zc46 : zcells Try.prog 46 = some [.nilfn] := by kernel_rfl
@[simp] theorem Try.zl46 : zlen Try.prog 46 = 1 := by kernel_rfl
@[simp] theorem Try.cells47 : Try.prog.cellsOf 47 = 1 := by kernel_rfl
@[simp] theorem Try.bytes47 : Try.prog.bytesOf 47 = 8 := by kernel_rfl
@[simp] theorem Try.zc47 : zcells Try.prog 47 = some [.nilfn] := by kernel_rfl
@[simp] theorem Try.zl47 : zlen Try.prog 47 = 1 := by kernel_rfl
@[simp] theorem Try.cells48 : Try.prog.cellsOf 48 = 1 := by kernel_rfl
@[simp] theorem Try.bytes48 : Try.prog.bytesOf 48 = 8 := by kernel_rfl
@[simp] theorem Try.zc48 : zcells Try.prog 48 = some [.nilfn] := by kernel_rfl
@[simp] theorem Try.zl48 : zlen Try.prog 48 = 1 := by kernel_rfl
@[simp] theorem Try.cells49 : Try.prog.cellsOf 49 = 1 := by kernel_rfl
@[simp] theorem Try.bytes49 : Try.prog.bytesOf 49 = 8 := by kernel_rfl
@[simp] theorem Try.zc49 : zcells Try.prog 49 = some [.nilfn] := by kernel_rfl
@[simp] theorem Try.zl49 : zlen Try.prog 49 = 1 := by kernel_rfl
@[simp] theorem Try.cells50 : Try.prog.cellsOf 50 = 1 := by kernel_rfl
@[simp] theorem Try.bytes50 : Try.prog.bytesOf 50 = 8 := by kernel_rfl
@[simp] theorem Try.zc50 : zcells Try.prog 50 = some [.nilfn] := by kernel_rfl
@[simp] theorem Try.zl50 : zlen Try.prog 50 = 1 := by kernel_rfl
@[simp] theorem Try.cells51 : Try.prog.cellsOf 51 = 1 := by kernel_rfl
@[simp] theorem Try.bytes51 : Try.prog.bytesOf 51 = 8 := by kernel_rfl
@[simp] theorem Try.zc51 : zcells Try.prog 51 = some [.nilfn] := by kernel_rfl
@[simp] theorem Try.zl51 : zlen Try.prog 51 = 1 := by kernel_rfl
@[simp] theorem Try.cells52 : Try.prog.cellsOf 52 = 1 := by kernel_rfl
@[simp] theorem Try.bytes52 : Try.prog.bytesOf 52 = 8 := by kernel_rfl
@[simp] theorem Try.zc52 : zcells Try.prog 52 = some [.nilfn] := by kernel_rfl
@[simp] theorem Try.zl52 : zlen Try.prog 52 = 1 := by kernel_rfl
@[simp] theorem Try.cells53 : Try.prog.cellsOf 53 = 1 := by kernel_rfl
@[simp] theorem Try.bytes53 : Try.prog.bytesOf 53 = 24 := by kernel_rfl
@[simp] theorem Try.zc53 : zcells Try.prog 53 = some [.nils] := by kernel_rfl
@[simp] theorem Try.zl53 : zlen Try.prog 53 = 1 := by kernel_rfl
@[simp] theorem Try.cells55 : Try.prog.cellsOf 55 = 1 := by kernel_rfl
@[simp] theorem Try.bytes55 : Try.prog.bytesOf 55 = 8 := by kernel_rfl
@[simp] theorem Try.zc55 : zcells Try.prog 55 = some [.nilfn] := by kernel_rfl
@[simp] theorem Try.zl55 : zlen Try.prog 55 = 1 := by kernel_rfl
@[simp] theorem Try.cells56 : Try.prog.cellsOf 56 = 1 := by kernel_rfl
@[simp] theorem Try.bytes56 : Try.prog.bytesOf 56 = 8 := by kernel_rfl
@[simp] theorem Try.zc56 : zcells Try.prog 56 = some [.nilfn] := by kernel_rfl
@[simp] theorem Try.zl56 : zlen Try.prog 56 = 1 := by kernel_rfl
@[simp] theorem Try.cells57 : Try.prog.cellsOf 57 = 6 := by kernel_rfl
@[simp] theorem Try.bytes57 : Try.prog.bytesOf 57 = 48 := by kernel_rfl
@[simp] theorem Try.zc57 : zcells Try.prog 57 = some [.int .u32 0, .int .u8 0, .int .u64 0, .int .u64 0, .int .i64 0, .int .i64 0] := by kernel_rfl
@[simp] theorem Try.zl57 : zlen Try.prog 57 = 6 := by kernel_rfl
@[simp] theorem Try.eqa57 (x0 y0 : Int) (x1 y1 : Int) (x2 y2 : Int) (x3 y3 : Int) (x4 y4 : Int) (x5 y5 : Int) : EqA Try.prog 57 [.int .u32 x0, .int .u8 x1, .int .u64 x2, .int .u64 x3, .int .i64 x4, .int .i64 x5] [.int .u32 y0, .int .u8 y1, .int .u64 y2, .int .u64 y3, .int .i64 y4, .int .i64 y5] :=
  EqA_of (l := [.int .u32, .int .u8, .int .u64, .int .u64, .int .i64, .int .i64]) 6 (by kernel_rfl) (by kernel_rfl) (by kernel_rfl) (by kernel_rfl) (by omega) (by simp [LSS, SSh]) (by simp [LSS, SSh])
@[simp] theorem Try.cells58 : Try.prog.cellsOf 58 = 6 := by kernel_rfl
@[simp] theorem Try.bytes58 : Try.prog.bytesOf 58 = 48 := by kernel_rfl
@[simp] theorem Try.zc58 : zcells Try.prog 58 = some [.int .u32 0, .int .u8 0, .int .u64 0, .int .u64 0, .int .i64 0, .int .i64 0] := by kernel_rfl
@[simp] theorem Try.zl58 : zlen Try.prog 58 = 6 := by kernel_rfl
@[simp] theorem Try.eqa58 (x0 y0 : Int) (x1 y1 : Int) (x2 y2 : Int) (x3 y3 : Int) (x4 y4 : Int) (x5 y5 : Int) : EqA Try.prog 58 [.int .u32 x0, .int .u8 x1, .int .u64 x2, .int .u64 x3, .int .i64 x4, .int .i64 x5] [.int .u32 y0, .int .u8 y1, .int .u64 y2, .int .u64 y3, .int .i64 y4, .int .i64 y5] :=
  EqA_of (l := [.int .u32, .int .u8, .int .u64, .int .u64, .int .i64, .int .i64]) 6 (by kernel_rfl) (by kernel_rfl) (by kernel_rfl) (by kernel_rfl) (by omega) (by simp [LSS, SSh]) (by simp [LSS, SSh])
@[simp] theorem Try.cells59 : Try.prog.cellsOf 59 = 1 := by kernel_rfl
@[simp] theorem Try.bytes59 : Try.prog.bytesOf 59 = 8 := by kernel_rfl
@[simp] theorem Try.zc59 : zcells Try.prog 59 = some [.nilfn] := by kernel_rfl
@[simp] theorem Try.zl59 : zlen Try.prog 59 = 1 := by kernel_rfl
@[simp] theorem Try.cells60 : Try.prog.cellsOf 60 = 1 := by kernel_rfl
@[simp] theorem Try.bytes60 : Try.prog.bytesOf 60 = 8 := by kernel_rfl
@[simp] theorem Try.zc60 : zcells Try.prog 60 = some [.nilfn] := by kernel_rfl
@[simp] theorem Try.zl60 : zlen Try.prog 60 = 1 := by kernel_rfl
@[simp] theorem Try.cells61 : Try.prog.cellsOf 61 = 1 := by kernel_rfl
@[simp] theorem Try.bytes61 : Try.prog.bytesOf 61 = 24 := by kernel_rfl
@[simp] theorem Try.zc61 : zcells Try.prog 61 = some [.nils] := by kernel_rfl
@[simp] theorem Try.zl61 : zlen Try.prog 61 = 1 := by kernel_rfl
@[simp] theorem Try.cells62 : Try.prog.cellsOf 62 = 1 := by kernel_rfl
@[simp] theorem Try.bytes62 : Try.prog.bytesOf 62 = 24 := by kernel_rfl
@[simp] theorem Try.zc62 : zcells Try.prog 62 = some [.nils] := by kernel_rfl
@[simp] theorem Try.zl62 : zlen Try.prog 62 = 1 := by kernel_rfl
@[simp] theorem Try.cells63 : Try.prog.cellsOf 63 = 3 := by kernel_rfl
@[simp] theorem Try.bytes63 : Try.prog.bytesOf 63 = 72 := by kernel_rfl
@[simp] theorem Try.zc63 : zcells Try.prog 63 = some [.nils, .nils, .nils] := by kernel_rfl
@[simp] theorem Try.zl63 : zlen Try.prog 63 = 3 := by kernel_rfl
@[simp] theorem Try.cells64 : Try.prog.cellsOf 64 = 3 := by kernel_rfl
@[simp] theorem Try.bytes64 : Try.prog.bytesOf 64 = 72 := by kernel_rfl
@[simp] theorem Try.zc64 : zcells Try.prog 64 = some [.nils, .nils, .nils] := by kernel_rfl
@[simp] theorem Try.zl64 : zlen Try.prog 64 = 3 := by kernel_rfl
@[simp] theorem Try.cells66 : Try.prog.cellsOf 66 = 1 := by kernel_rfl
@[simp] theorem Try.bytes66 : Try.prog.bytesOf 66 = 8 := by kernel_rfl
@[simp] theorem Try.zc66 : zcells Try.prog 66 = some [.nilfn] := by kernel_rfl
@[simp] theorem Try.zl66 : zlen Try.prog 66 = 1 := by kernel_rfl
@[simp] theorem Try.cells68 : Try.prog.cellsOf 68 = 1 := by kernel_rfl
@[simp] theorem Try.bytes68 : Try.prog.bytesOf 68 = 8 := by kernel_rfl
@[simp] theorem Try.zc68 : zcells Try.prog 68 = some [.nilfn] := by kernel_rfl
@[simp] theorem Try.zl68 : zlen Try.prog 68 = 1 := by kernel_rfl
@[simp] theorem Try.cells70 : Try.prog.cellsOf 70 = 1 := by kernel_rfl
@[simp] theorem Try.bytes70 : Try.prog.bytesOf 70 = 8 := by kernel_rfl
@[simp] theorem Try.zc70 : zcells Try.prog 70 = some [.nilfn] := by kernel_rfl
@[simp] theorem Try.zl70 : zlen Try.prog 70 = 1 := by kernel_rfl
@[simp] theorem Try.cells71 : Try.prog.cellsOf 71 = 1 := by kernel_rfl
@[simp] theorem Try.bytes71 : Try.prog.bytesOf 71 = 8 := by kernel_rfl
@[simp] theorem Try.zc71 : zcells Try.prog 71 = some [.nilfn] := by kernel_rfl
@[simp] theorem Try.zl71 : zlen Try.prog 71 = 1 := by kernel_rfl
@[simp] theorem Try.cells72 : Try.prog.cellsOf 72 = 1 := by kernel_rfl
@[simp] theorem Try.bytes72 : Try.prog.bytesOf 72 = 8 := by kernel_rfl
@[simp] theorem Try.zc72 : zcells Try.prog 72 = some [.nilfn] := by kernel_rfl
@[simp] theorem Try.zl72 : zlen Try.prog 72 = 1 := by kernel_rfl
@[simp] theorem Try.cells73 : Try.prog.cellsOf 73 = 1 := by kernel_rfl
@[simp] theorem Try.bytes73 : Try.prog.bytesOf 73 = 8 := by kernel_rfl
@[simp] theorem Try.zc73 : zcells Try.prog 73 = some [.nilfn] := by kernel_rfl
@[simp] theorem Try.zl73 : zlen Try.prog 73 = 1 := by kernel_rfl
@[simp] theorem Try.cells74 : Try.prog.cellsOf 74 = 1 := by kernel_rfl
@[simp] theorem Try.bytes74 : Try.prog.bytesOf 74 = 8 := by kernel_rfl
@[simp] theorem Try.zc74 : zcells Try.prog 74 = some [.nilfn] := by kernel_rfl
@[simp] theorem Try.zl74 : zlen Try.prog 74 = 1 := by kernel_rfl
@[simp] theorem Try.cells75 : Try.prog.cellsOf 75 = 5 := by kernel_rfl
@[simp] theorem Try.bytes75 : Try.prog.bytesOf 75 = 40 := by kernel_rfl
@[simp] theorem Try.zc75 : zcells Try.prog 75 = some [.int .u8 0, .int .u64 0, .int .u64 0, .int .i64 0, .int .i64 0] := by kernel_rfl
@[simp] theorem Try.zl75 : zlen Try.prog 75 = 5 := by kernel_rfl
@[simp] theorem Try.eqa75 (x0 y0 : Int) (x1 y1 : Int) (x2 y2 : Int) (x3 y3 : Int) (x4 y4 : Int) : EqA Try.prog 75 [.int .u8 x0, .int .u64 x1, .int .u64 x2, .int .i64 x3, .int .i64 x4] [.int .u8 y0, .int .u64 y1, .int .u64 y2, .int .i64 y3, .int .i64 y4] :=
  EqA_of (l := [.int .u8, .int .u64, .int .u64, .int .i64, .int .i64]) 6 (by kernel_rfl) (by kernel_rfl) (by kernel_rfl) (by kernel_rfl) (by omega) (by simp [LSS, SSh]) (by simp [LSS, SSh])
@[simp] theorem Try.cells76 : Try.prog.cellsOf 76 = 5 := by kernel_rfl
@[simp] theorem Try.bytes76 : Try.prog.bytesOf 76 = 40 := by kernel_rfl
@[simp] theorem Try.zc76 : zcells Try.prog 76 = some [.int .u8 0, .int .u64 0, .int .u64 0, .int .i64 0, .int .i64 0] := by kernel_rfl
@[simp] theorem Try.zl76 : zlen Try.prog 76 = 5 := by kernel_rfl
@[simp] theorem Try.eqa76 (x0 y0 : Int) (x1 y1 : Int) (x2 y2 : Int) (x3 y3 : Int) (x4 y4 : Int) : EqA Try.prog 76 [.int .u8 x0, .int .u64 x1, .int .u64 x2, .int .i64 x3, .int .i64 x4] [.int .u8 y0, .int .u64 y1, .int .u64 y2, .int .i64 y3, .int .i64 y4] :=
  EqA_of (l := [.int .u8, .int .u64, .int .u64, .int .i64, .int .i64]) 6 (by kernel_rfl) (by kernel_rfl) (by kernel_rfl) (by kernel_rfl) (by omega) (by simp [LSS, SSh]) (by simp [LSS, SSh])
@[simp] theorem Try.cells77 : Try.prog.cellsOf 77 = 1 := by kernel_rfl
@[simp] theorem Try.bytes77 : Try.prog.bytesOf 77 = 8 := by kernel_rfl
@[simp] theorem Try.zc77 : zcells Try.prog 77 = some [.nilfn] := by kernel_rfl
@[simp] theorem Try.zl77 : zlen Try.prog 77 = 1 := by kernel_rfl
@[simp] theorem Try.cells78 : Try.prog.cellsOf 78 = 4 := by kernel_rfl
@[simp] theorem Try.bytes78 : Try.prog.bytesOf 78 = 32 := by kernel_rfl
@[simp] theorem Try.zc78 : zcells Try.prog 78 = some [.int .u64 0, .int .u64 0, .int .u64 0, .int .u64 0] := by kernel_rfl
@[simp] theorem Try.zl78 : zlen Try.prog 78 = 4 := by kernel_rfl
@[simp] theorem Try.eqa78 (x0 y0 : Int) (x1 y1 : Int) (x2 y2 : Int) (x3 y3 : Int) : EqA Try.prog 78 [.int .u64 x0, .int .u64 x1, .int .u64 x2, .int .u64 x3] [.int .u64 y0, .int .u64 y1, .int .u64 y2, .int .u64 y3] :=
  EqA_of (l := [.int .u64, .int .u64, .int .u64, .int .u64]) 6 (by kernel_rfl) (by kernel_rfl) (by kernel_rfl) (by kernel_rfl) (by omega) (by simp [LSS, SSh]) (by simp [LSS, SSh])
@[simp] theorem Try.cells79 : Try.prog.cellsOf 79 = 4 := by kernel_rfl
@[simp] theorem Try.bytes79 : Try.prog.bytesOf 79 = 32 := by kernel_rfl
@[simp] theorem Try.zc79 : zcells Try.prog 79 = some [.int .u64 0, .int .u64 0, .int .u64 0, .int .u64 0] := by kernel_rfl
@[simp] theorem Try.zl79 : zlen Try.prog 79 = 4 := by kernel_rfl
@[simp] theorem Try.eqa79 (x0 y0 : Int) (x1 y1 : Int) (x2 y2 : Int) (x3 y3 : Int) : EqA Try.prog 79 [.int .u64 x0, .int .u64 x1, .int .u64 x2, .int .u64 x3] [.int .u64 y0, .int .u64 y1, .int .u64 y2, .int .u64 y3] :=
  EqA_of (l := [.int .u64, .int .u64, .int .u64, .int .u64]) 6 (by kernel_rfl) (by kernel_rfl) (by kernel_rfl) (by kernel_rfl) (by omega) (by simp [LSS, SSh]) (by simp [LSS, SSh])
@[simp] theorem Try.cells80 : Try.prog.cellsOf 80 = 1 := by kernel_rfl
@[simp] theorem Try.bytes80 : Try.prog.bytesOf 80 = 8 := by kernel_rfl
@[simp] theorem Try.zc80 : zcells Try.prog 80 = some [.nilfn] := by kernel_rfl
@[simp] theorem Try.zl80 : zlen Try.prog 80 = 1 := by kernel_rfl
@[simp] theorem Try.cells81 : Try.prog.cellsOf 81 = 1 := by kernel_rfl
@[simp] theorem Try.bytes81 : Try.prog.bytesOf 81 = 8 := by kernel_rfl
@[simp] theorem Try.zc81 : zcells Try.prog 81 = some [.nilfn] := by kernel_rfl
@[simp] theorem Try.zl81 : zlen Try.prog 81 = 1 := by kernel_rfl
@[simp] theorem Try.cells82 : Try.prog.cellsOf 82 = 1 := by kernel_rfl
@[simp] theorem Try.bytes82 : Try.prog.bytesOf 82 = 8 := by kernel_rfl
@[simp] theorem Try.zc82 : zcells Try.prog 82 = some [.nilfn] := by kernel_rfl
@[simp] theorem Try.zl82 : zlen Try.prog 82 = 1 := by kernel_rfl
@[simp] theorem Try.cells83 : Try.prog.cellsOf 83 = 1 := by kernel_rfl
@[simp] theorem Try.bytes83 : Try.prog.bytesOf 83 = 8 := by kernel_rfl
@[simp] theorem Try.zc83 : zcells Try.prog 83 = some [.nilfn] := by kernel_rfl
@[simp] theorem Try.zl83 : zlen Try.prog 83 = 1 := by kernel_rfl
@[simp] theorem Try.cells84 : Try.prog.cellsOf 84 = 1 := by kernel_rfl
@[simp] theorem Try.bytes84 : Try.prog.bytesOf 84 = 24 := by kernel_rfl
@[simp] theorem Try.zc84 : zcells Try.prog 84 = some [.nils] := by kernel_rfl
@[simp] theorem Try.zl84 : zlen Try.prog 84 = 1 := by kernel_rfl
@[simp] theorem Try.cells85 : Try.prog.cellsOf 85 = 3 := by kernel_rfl
@[simp] theorem Try.bytes85 : Try.prog.bytesOf 85 = 56 := by kernel_rfl
@[simp] theorem Try.zc85 : zcells Try.prog 85 = some [.int .u8 0, .nils, .nils] := by kernel_rfl
@[simp] theorem Try.zl85 : zlen Try.prog 85 = 3 := by kernel_rfl
@[simp] theorem Try.cells86 : Try.prog.cellsOf 86 = 3 := by kernel_rfl
@[simp] theorem Try.bytes86 : Try.prog.bytesOf 86 = 56 := by kernel_rfl
@[simp] theorem Try.zc86 : zcells Try.prog 86 = some [.int .u8 0, .nils, .nils] := by kernel_rfl
@[simp] theorem Try.zl86 : zlen Try.prog 86 = 3 := by kernel_rfl
@[simp] theorem Try.cells87 : Try.prog.cellsOf 87 = 1 := by kernel_rfl
@[simp] theorem Try.bytes87 : Try.prog.bytesOf 87 = 8 := by kernel_rfl
@[simp] theorem Try.zc87 : zcells Try.prog 87 = some [.nilfn] := by kernel_rfl
@[simp] theorem Try.zl87 : zlen Try.prog 87 = 1 := by kernel_rfl
@[simp] theorem Try.cells88 : Try.prog.cellsOf 88 = 5 := by kernel_rfl
@[simp] theorem Try.bytes88 : Try.prog.bytesOf 88 = 40 := by kernel_rfl
@[simp] theorem Try.zc88 : zcells Try.prog 88 = some [.int .u64 0, .int .u64 0, .int .u64 0, .int .u64 0, .int .u64 0] := by kernel_rfl
@[simp] theorem Try.zl88 : zlen Try.prog 88 = 5 := by kernel_rfl
@[simp] theorem Try.eqa88 (x0 y0 : Int) (x1 y1 : Int) (x2 y2 : Int) (x3 y3 : Int) (x4 y4 : Int) : EqA Try.prog 88 [.int .u64 x0, .int .u64 x1, .int .u64 x2, .int .u64 x3, .int .u64 x4] [.int .u64 y0, .int .u64 y1, .int .u64 y2, .int .u64 y3, .int .u64 y4] :=
  EqA_of (l := [.int .u64, .int .u64, .int .u64, .int .u64, .int .u64]) 6 (by kernel_rfl) (by kernel_rfl) (by kernel_rfl) (by kernel_rfl) (by omega) (by simp [LSS, SSh]) (by simp [LSS, SSh])
@[simp] theorem Try.cells89 : Try.prog.cellsOf 89 = 1 := by kernel_rfl
@[simp] theorem Try.bytes89 : Try.prog.bytesOf 89 = 8 := by kernel_rfl
@[simp] theorem Try.zc89 : zcells Try.prog 89 = some [.nilfn] := by kernel_rfl
@[simp] theorem Try.zl89 : zlen Try.prog 89 = 1 := by kernel_rfl
@[simp] theorem Try.cells90 : Try.prog.cellsOf 90 = 1 := by kernel_rfl
@[simp] theorem Try.bytes90 : Try.prog.bytesOf 90 = 8 := by kernel_rfl
@[simp] theorem Try.zc90 : zcells Try.prog 90 = some [.nilfn] := by kernel_rfl
@[simp] theorem Try.zl90 : zlen Try.prog 90 = 1 := by kernel_rfl
@[simp] theorem Try.cells91 : Try.prog.cellsOf 91 = 1 := by kernel_rfl
@[simp] theorem Try.bytes91 : Try.prog.bytesOf 91 = 8 := by kernel_rfl
@[simp] theorem Try.zc91 : zcells Try.prog 91 = some [.nilfn] := by kernel_rfl
@[simp] theorem Try.zl91 : zlen Try.prog 91 = 1 := by kernel_rfl
@[simp] theorem Try.cells92 : Try.prog.cellsOf 92 = 1 := by kernel_rfl
@[simp] theorem Try.bytes92 : Try.prog.bytesOf 92 = 8 := by kernel_rfl
@[simp] theorem Try.zc92 : zcells Try.prog 92 = some [.nilfn] := by kernel_rfl
@[simp] theorem Try.zl92 : zlen Try.prog 92 = 1 := by kernel_rfl
@[simp] theorem Try.cells93 : Try.prog.cellsOf 93 = 1 := by kernel_rfl
@[simp] theorem Try.bytes93 : Try.prog.bytesOf 93 = 8 := by kernel_rfl
@[simp] theorem Try.zc93 : zcells Try.prog 93 = some [.nilfn] := by kernel_rfl
@[simp] theorem Try.zl93 : zlen Try.prog 93 = 1 := by kernel_rfl
@[simp] theorem Try.cells95 : Try.prog.cellsOf 95 = 1 := by kernel_rfl
@[simp] theorem Try.bytes95 : Try.prog.bytesOf 95 = 8 := by kernel_rfl
@[simp] theorem Try.zc95 : zcells Try.prog 95 = some [.nilfn] := by kernel_rfl
@[simp] theorem Try.zl95 : zlen Try.prog 95 = 1 := by kernel_rfl
@[simp] theorem Try.cells97 : Try.prog.cellsOf 97 = 1 := by kernel_rfl
@[simp] theorem Try.bytes97 : Try.prog.bytesOf 97 = 8 := by kernel_rfl
@[simp] theorem Try.zc97 : zcells Try.prog 97 = some [.nilfn] := by kernel_rfl
@[simp] theorem Try.zl97 : zlen Try.prog 97 = 1 := by kernel_rfl
@[simp] theorem Try.cells98 : Try.prog.cellsOf 98 = 1 := by kernel_rfl
@[simp] theorem Try.bytes98 : Try.prog.bytesOf 98 = 8 := by kernel_rfl
@[simp] theorem Try.zc98 : zcells Try.prog 98 = some [.nilfn] := by kernel_rfl
@[simp] theorem Try.zl98 : zlen Try.prog 98 = 1 := by kernel_rfl
@[simp] theorem Try.cells100 : Try.prog.cellsOf 100 = 1 := by kernel_rfl
@[simp] theorem Try.bytes100 : Try.prog.bytesOf 100 = 8 := by kernel_rfl
@[simp] theorem Try.zc100 : zcells Try.prog 100 = some [.nilfn] := by kernel_rfl
@[simp] theorem Try.zl100 : zlen Try.prog 100 = 1 := by kernel_rfl
@[simp] theorem Try.cells102 : Try.prog.cellsOf 102 = 1 := by kernel_rfl
@[simp] theorem Try.bytes102 : Try.prog.bytesOf 102 = 8 := by kernel_rfl
@[simp] theorem Try.zc102 : zcells Try.prog 102 = some [.nilfn] := by kernel_rfl
@[simp] theorem Try.zl102 : zlen Try.prog 102 = 1 := by kernel_rfl
@[simp] theorem Try.cells103 : Try.prog.cellsOf 103 = 1 := by kernel_rfl
@[simp] theorem Try.bytes103 : Try.prog.bytesOf 103 = 8 := by kernel_rfl
@[simp] theorem Try.zc103 : zcells Try.prog 103 = some [.nilfn] := by kernel_rfl
@[simp] theorem Try.zl103 : zlen Try.prog 103 = 1 := by kernel_rfl
@[simp] theorem Try.cells104 : Try.prog.cellsOf 104 = 1 := by kernel_rfl
@[simp] theorem Try.bytes104 : Try.prog.bytesOf 104 = 8 := by kernel_rfl
@[simp] theorem Try.zc104 : zcells Try.prog 104 = some [.nilfn] := by kernel_rfl
@[simp] theorem Try.zl104 : zlen Try.prog 104 = 1 := by kernel_rfl
@[simp] theorem Try.cells105 : Try.prog.cellsOf 105 = 1 := by kernel_rfl
@[simp] theorem Try.bytes105 : Try.prog.bytesOf 105 = 8 := by kernel_rfl
@[simp] theorem Try.zc105 : zcells Try.prog 105 = some [.nilfn] := by kernel_rfl
@[simp] theorem Try.zl105 : zlen Try.prog 105 = 1 := by kernel_rfl
@[simp] theorem Try.cells106 : Try.prog.cellsOf 106 = 1 := by kernel_rfl
@[simp] theorem Try.bytes106 : Try.prog.bytesOf 106 = 8 := by kernel_rfl
@[simp] theorem Try.zc106 : zcells Try.prog 106 = some [.nilfn] := by kernel_rfl
@[simp] theorem Try.zl106 : zlen Try.prog 106 = 1 := by kernel_rfl
@[simp] theorem Try.cells107 : Try.prog.cellsOf 107 = 1 := by kernel_rfl
@[simp] theorem Try.bytes107 : Try.prog.bytesOf 107 = 8 := by kernel_rfl
@[simp] theorem Try.zc107 : zcells Try.prog 107 = some [.nilfn] := by kernel_rfl
@[simp] theorem Try.zl107 : zlen Try.prog 107 = 1 := by kernel_rfl
@[simp] theorem Try.cells108 : Try.prog.cellsOf 108 = 1 := by kernel_rfl
@[simp] theorem Try.bytes108 : Try.prog.bytesOf 108 = 8 := by kernel_rfl
@[simp] theorem Try.zc108 : zcells Try.prog 108 = some [.nilfn] := by kernel_rfl
@[simp] theorem Try.zl108 : zlen Try.prog 108 = 1 := by kernel_rfl
@[simp] theorem Try.cells109 : Try.prog.cellsOf 109 = 1 := by kernel_rfl
@[simp] theorem Try.bytes109 : Try.prog.bytesOf 109 = 8 := by kernel_rfl
@[simp] theorem Try.zc109 : zcells Try.prog 109 = some [.nilfn] := by kernel_rfl
@[simp] theorem Try.zl109 : zlen Try.prog 109 = 1 := by kernel_rfl
@[simp] theorem Try.cells110 : Try.prog.cellsOf 110 = 1 := by kernel_rfl
@[simp] theorem Try.bytes110 : Try.prog.bytesOf 110 = 8 := by kernel_rfl
@[simp] theorem Try.zc110 : zcells Try.prog 110 = some [.nilfn] := by kernel_rfl
@[simp] theorem Try.zl110 : zlen Try.prog 110 = 1 := by kernel_rfl
@[simp] theorem Try.cells111 : Try.prog.cellsOf 111 = 1 := by kernel_rfl
@[simp] theorem Try.bytes111 : Try.prog.bytesOf 111 = 8 := by kernel_rfl
@[simp] theorem Try.zc111 : zcells Try.prog 111 = some [.nilfn] := by kernel_rfl
@[simp] theorem Try.zl111 : zlen Try.prog 111 = 1 := by kernel_rfl
@[simp] theorem Try.cells112 : Try.prog.cellsOf 112 = 1 := by kernel_rfl
@[simp] theorem Try.bytes112 : Try.prog.bytesOf 112 = 8 := by kernel_rfl
@[simp] theorem Try.zc112 : zcells Try.prog 112 = some [.nilfn] := by kernel_rfl
@[simp] theorem Try.zl112 : zlen Try.prog 112 = 1 := by kernel_rfl
@[simp] theorem Try.cells113 : Try.prog.cellsOf 113 = 1 := by kernel_rfl
@[simp] theorem Try.bytes113 : Try.prog.bytesOf 113 = 8 := by kernel_rfl
@[simp] theorem Try.zc113 : zcells Try.prog 113 = some [.nilfn] := by kernel_rfl
@[simp] theorem Try.zl113 : zlen Try.prog 113 = 1 := by kernel_rfl
@[simp] theorem Try.cells114 : Try.prog.cellsOf 114 = 1 := by kernel_rfl
@[simp] theorem Try.bytes114 : Try.prog.bytesOf 114 = 8 := by kernel_rfl
@[simp] theorem Try.zc114 : zcells Try.prog 114 = some [.nilfn] := by kernel_rfl
@[simp] theorem Try.zl114 : zlen Try.prog 114 = 1 := by kernel_rfl
@[simp] theorem Try.cells116 : Try.prog.cellsOf 116 = 1 := by kernel_rfl
@[simp] theorem Try.bytes116 : Try.prog.bytesOf 116 = 8 := by kernel_rfl
@[simp] theorem Try.zc116 : zcells Try.prog 116 = some [.nilfn] := by kernel_rfl
@[simp] theorem Try.zl116 : zlen Try.prog 116 = 1 := by kernel_rfl
@[simp] theorem Try.cells117 : Try.prog.cellsOf 117 = 1 := by kernel_rfl
@[simp] theorem Try.bytes117 : Try.prog.bytesOf 117 = 8 := by kernel_rfl
@[simp] theorem Try.zc117 : zcells Try.prog 117 = some [.nilfn] := by kernel_rfl
@[simp] theorem Try.zl117 : zlen Try.prog 117 = 1 := by kernel_rfl
@[simp] theorem Try.cells118 : Try.prog.cellsOf 118 = 1 := by kernel_rfl
@[simp] theorem Try.bytes118 : Try.prog.bytesOf 118 = 8 := by kernel_rfl
@[simp] theorem Try.zc118 : zcells Try.prog 118 = some [.nilfn] := by kernel_rfl
@[simp] theorem Try.zl118 : zlen Try.prog 118 = 1 := by kernel_rfl
@[simp] theorem Try.cells119 : Try.prog.cellsOf 119 = 1 := by kernel_rfl
@[simp] theorem Try.bytes119 : Try.prog.bytesOf 119 = 8 := by kernel_rfl
@[simp] theorem Try.zc119 : zcells Try.prog 119 = some [.nilfn] := by kernel_rfl
@[simp] theorem Try.zl119 : zlen Try.prog 119 = 1 := by kernel_rfl
@[simp] theorem Try.cells121 : Try.prog.cellsOf 121 = 1 := by kernel_rfl
@[simp] theorem Try.bytes121 : Try.prog.bytesOf 121 = 8 := by kernel_rfl
@[simp] theorem Try.zc121 : zcells Try.prog 121 = some [.nilfn] := by kernel_rfl
@[simp] theorem Try.zl121 : zlen Try.prog 121 = 1 := by kernel_rfl
@[simp] theorem Try.cells122 : Try.prog.cellsOf 122 = 1 := by kernel_rfl
@[simp] theorem Try.bytes122 : Try.prog.bytesOf 122 = 8 := by kernel_rfl
@[simp] theorem Try.zc122 : zcells Try.prog 122 = some [.nilfn] := by kernel_rfl
@[simp] theorem Try.zl122 : zlen Try.prog 122 = 1 := by kernel_rfl
@[simp] theorem Try.cells123 : Try.prog.cellsOf 123 = 1 := by kernel_rfl
@[simp] theorem Try.bytes123 : Try.prog.bytesOf 123 = 8 := by kernel_rfl
@[simp] theorem Try.zc123 : zcells Try.prog 123 = some [.nilfn] := by kernel_rfl
@[simp] theorem Try.zl123 : zlen Try.prog 123 = 1 := by kernel_rfl
@[simp] theorem Try.cells124 : Try.prog.cellsOf 124 = 1 := by kernel_rfl
@[simp] theorem Try.bytes124 : Try.prog.bytesOf 124 = 8 := by kernel_rfl
@[simp] theorem Try.zc124 : zcells Try.prog 124 = some [.nilfn] := by kernel_rfl
@[simp] theorem Try.zl124 : zlen Try.prog 124 = 1 := by kernel_rfl
@[simp] theorem Try.cells125 : Try.prog.cellsOf 125 = 1 := by kernel_rfl
@[simp] theorem Try.bytes125 : Try.prog.bytesOf 125 = 24 := by kernel_rfl
@[simp] theorem Try.zc125 : zcells Try.prog 125 = some [.nils] := by kernel_rfl
@[simp] theorem Try.zl125 : zlen Try.prog 125 = 1 := by kernel_rfl
@[simp] theorem Try.cells127 : Try.prog.cellsOf 127 = 1 := by kernel_rfl
@[simp] theorem Try.bytes127 : Try.prog.bytesOf 127 = 8 := by kernel_rfl
@[simp] theorem Try.zc127 : zcells Try.prog 127 = some [.nilfn] := by kernel_rfl
@[simp] theorem Try.zl127 : zlen Try.prog 127 = 1 := by kernel_rfl
@[simp] theorem Try.cells128 : Try.prog.cellsOf 128 = 1 := by kernel_rfl
@[simp] theorem Try.bytes128 : Try.prog.bytesOf 128 = 8 := by kernel_rfl
@[simp] theorem Try.zc128 : zcells Try.prog 128 = some [.int .u64 0] := by kernel_rfl
@[simp] theorem Try.zl128 : zlen Try.prog 128 = 1 := by kernel_rfl
@[simp] theorem Try.cells129 : Try.prog.cellsOf 129 = 1 := by kernel_rfl
@[simp] theorem Try.bytes129 : Try.prog.bytesOf 129 = 24 := by kernel_rfl
@[simp] theorem Try.zc129 : zcells Try.prog 129 = some [.nils] := by kernel_rfl
@[simp] theorem Try.zl129 : zlen Try.prog 129 = 1 := by kernel_rfl
@[simp] theorem Try.cells130 : Try.prog.cellsOf 130 = 1 := by kernel_rfl
@[simp] theorem Try.bytes130 : Try.prog.bytesOf 130 = 8 := by kernel_rfl
@[simp] theorem Try.zc130 : zcells Try.prog 130 = some [.nilfn] := by kernel_rfl
@[simp] theorem Try.zl130 : zlen Try.prog 130 = 1 := by kernel_rfl
@[simp] theorem Try.cells131 : Try.prog.cellsOf 131 = 1 := by kernel_rfl
@[simp] theorem Try.bytes131 : Try.prog.bytesOf 131 = 24 := by kernel_rfl
@[simp] theorem Try.zc131 : zcells Try.prog 131 = some [.nils] := by kernel_rfl
@[simp] theorem Try.zl131 : zlen Try.prog 131 = 1 := by kernel_rfl
@[simp] theorem Try.cells132 : Try.prog.cellsOf 132 = 1 := by kernel_rfl
@[simp] theorem Try.bytes132 : Try.prog.bytesOf 132 = 8 := by kernel_rfl
@[simp] theorem Try.zc132 : zcells Try.prog 132 = some [.nilfn] := by kernel_rfl
@[simp] theorem Try.zl132 : zlen Try.prog 132 = 1 := by kernel_rfl
@[simp] theorem Try.cells133 : Try.prog.cellsOf 133 = 1 := by kernel_rfl
@[simp] theorem Try.bytes133 : Try.prog.bytesOf 133 = 8 := by kernel_rfl
@[simp] theorem Try.zc133 : zcells Try.prog 133 = some [.nilfn] := by kernel_rfl
@[simp] theorem Try.zl133 : zlen Try.prog 133 = 1 := by kernel_rfl
@[simp] theorem Try.cells134 : Try.prog.cellsOf 134 = 1 := by kernel_rfl
@[simp] theorem Try.bytes134 : Try.prog.bytesOf 134 = 8 := by kernel_rfl
@[simp] theorem Try.zc134 : zcells Try.prog 134 = some [.nilfn] := by kernel_rfl
@[simp] theorem Try.zl134 : zlen Try.prog 134 = 1 := by kernel_rfl
@[simp] theorem Try.cells135 : Try.prog.cellsOf 135 = 1 := by kernel_rfl
@[simp] theorem Try.bytes135 : Try.prog.bytesOf 135 = 8 := by kernel_rfl
@[simp] theorem Try.zc135 : zcells Try.prog 135 = some [.nilfn] := by kernel_rfl
@[simp] theorem Try.zl135 : zlen Try.prog 135 = 1 := by kernel_rfl
@[simp] theorem Try.cells136 : Try.prog.cellsOf 136 = 1 := by kernel_rfl
@[simp] theorem Try.bytes136 : Try.prog.bytesOf 136 = 8 := by kernel_rfl
@[simp] theorem Try.zc136 : zcells Try.prog 136 = some [.nilfn] := by kernel_rfl
@[simp] theorem Try.zl136 : zlen Try.prog 136 = 1 := by kernel_rfl
@[simp] theorem Try.cells137 : Try.prog.cellsOf 137 = 0 := by kernel_rfl
@[simp] theorem Try.bytes137 : Try.prog.bytesOf 137 = 0 := by kernel_rfl
@[simp] theorem Try.zc137 : zcells Try.prog 137 = some [] := by kernel_rfl
@[simp] theorem Try.zl137 : zlen Try.prog 137 = 0 := by kernel_rfl
@[simp] theorem Try.cells138 : Try.prog.cellsOf 138 = 0 := by kernel_rfl
@[simp] theorem Try.bytes138 : Try.prog.bytesOf 138 = 0 := by kernel_rfl
@[simp] theorem Try.zc138 : zcells Try.prog 138 = some [] := by kernel_rfl
@[simp] theorem Try.zl138 : zlen Try.prog 138 = 0 := by kernel_rfl
@[simp] theorem Try.cells140 : Try.prog.cellsOf 140 = 1 := by kernel_rfl
@[simp] theorem Try.bytes140 : Try.prog.bytesOf 140 = 8 := by kernel_rfl
@[simp] theorem Try.zc140 : zcells Try.prog 140 = some [.nilp] := by kernel_rfl
@[simp] theorem Try.zl140 : zlen Try.prog 140 = 1 := by kernel_rfl
@[simp] theorem Try.cells141 : Try.prog.cellsOf 141 = 1 := by kernel_rfl
@[simp] theorem Try.bytes141 : Try.prog.bytesOf 141 = 24 := by kernel_rfl
@[simp] theorem Try.zc141 : zcells Try.prog 141 = some [.nils] := by kernel_rfl
@[simp] theorem Try.zl141 : zlen Try.prog 141 = 1 := by kernel_rfl
@[simp] theorem Try.cells142 : Try.prog.cellsOf 142 = 1 := by kernel_rfl
@[simp] theorem Try.bytes142 : Try.prog.bytesOf 142 = 24 := by kernel_rfl
@[simp] theorem Try.zc142 : zcells Try.prog 142 = some [.nils] := by kernel_rfl
@[simp] theorem Try.zl142 : zlen Try.prog 142 = 1 := by kernel_rfl
@[simp] theorem Try.cells143 : Try.prog.cellsOf 143 = 1 := by kernel_rfl
@[simp] theorem Try.bytes143 : Try.prog.bytesOf 143 = 8 := by kernel_rfl
@[simp] theorem Try.zc143 : zcells Try.prog 143 = some [.nilfn] := by kernel_rfl
@[simp] theorem Try.zl143 : zlen Try.prog 143 = 1 := by kernel_rfl
@[simp] theorem Try.cells144 : Try.prog.cellsOf 144 = 1 := by kernel_rfl
@[simp] theorem Try.bytes144 : Try.prog.bytesOf 144 = 8 := by kernel_rfl
@[simp] theorem Try.zc144 : zcells Try.prog 144 = some [.nilfn] := by kernel_rfl
@[simp] theorem Try.zl144 : zlen Try.prog 144 = 1 := by kernel_rfl
@[simp] theorem Try.cells146 : Try.prog.cellsOf 146 = 1 := by kernel_rfl
@[simp] theorem Try.bytes146 : Try.prog.bytesOf 146 = 8 := by kernel_rfl
@[simp] theorem Try.zc146 : zcells Try.prog 146 = some [.nilfn] := by kernel_rfl
@[simp] theorem Try.zl146 : zlen Try.prog 146 = 1 := by kernel_rfl
@[simp] theorem Try.cells147 : Try.prog.cellsOf 147 = 1 := by kernel_rfl
@[simp] theorem Try.bytes147 : Try.prog.bytesOf 147 = 8 := by kernel_rfl
@[simp] theorem Try.zc147 : zcells Try.prog 147 = some [.nilfn] := by kernel_rfl
@[simp] theorem Try.zl147 : zlen Try.prog 147 = 1 := by kernel_rfl
@[simp] theorem Try.cells149 : Try.prog.cellsOf 149 = 1 := by kernel_rfl
@[simp] theorem Try.bytes149 : Try.prog.bytesOf 149 = 8 := by kernel_rfl
@[simp] theorem Try.zc149 : zcells Try.prog 149 = some [.nilfn] := by kernel_rfl
@[simp] theorem Try.zl149 : zlen Try.prog 149 = 1 := by kernel_rfl
@[simp] theorem Try.cells150 : Try.prog.cellsOf 150 = 1 := by kernel_rfl
@[simp] theorem Try.bytes150 : Try.prog.bytesOf 150 = 8 := by kernel_rfl
@[simp] theorem Try.zc150 : zcells Try.prog 150 = some [.nilfn] := by kernel_rfl
@[simp] theorem Try.zl150 : zlen Try.prog 150 = 1 := by kernel_rfl
@[simp] theorem Try.cells151 : Try.prog.cellsOf 151 = 1 := by kernel_rfl
@[simp] theorem Try.bytes151 : Try.prog.bytesOf 151 = 24 := by kernel_rfl
@[simp] theorem Try.zc151 : zcells Try.prog 151 = some [.nils] := by kernel_rfl
@[simp] theorem Try.zl151 : zlen Try.prog 151 = 1 := by kernel_rfl
@[simp] theorem Try.cells154 : Try.prog.cellsOf 154 = 1 := by kernel_rfl
@[simp] theorem Try.bytes154 : Try.prog.bytesOf 154 = 8 := by kernel_rfl
@[simp] theorem Try.zc154 : zcells Try.prog 154 = some [.nilfn] := by kernel_rfl
@[simp] theorem Try.zl154 : zlen Try.prog 154 = 1 := by kernel_rfl
@[simp] theorem Try.cells155 : Try.prog.cellsOf 155 = 1 := by kernel_rfl
@[simp] theorem Try.bytes155 : Try.prog.bytesOf 155 = 8 := by kernel_rfl
@[simp] theorem Try.zc155 : zcells Try.prog 155 = some [.nilfn] := by kernel_rfl
@[simp] theorem Try.zl155 : zlen Try.prog 155 = 1 := by kernel_rfl
@[simp] theorem Try.cells156 : Try.prog.cellsOf 156 = 1 := by kernel_rfl
@[simp] theorem Try.bytes156 : Try.prog.bytesOf 156 = 24 := by kernel_rfl
@[simp] theorem Try.zc156 : zcells Try.prog 156 = some [.nils] := by kernel_rfl
@[simp] theorem Try.zl156 : zlen Try.prog 156 = 1 := by kernel_rfl
@[simp] theorem Try.cells157 : Try.prog.cellsOf 157 = 3 := by kernel_rfl
@[simp] theorem Try.bytes157 : Try.prog.bytesOf 157 = 72 := by kernel_rfl
@[simp] theorem Try.zc157 : zcells Try.prog 157 = some [.nils, .nils, .nils] := by kernel_rfl
@[simp] theorem Try.zl157 : zlen Try.prog 157 = 3 := by kernel_rfl
@[simp] theorem Try.cells158 : Try.prog.cellsOf 158 = 1 := by kernel_rfl
@[simp] theorem Try.bytes158 : Try.prog.bytesOf 158 = 8 := by kernel_rfl
@[simp] theorem Try.zc158 : zcells Try.prog 158 = some [.nilfn] := by kernel_rfl
@[simp] theorem Try.zl158 : zlen Try.prog 158 = 1 := by kernel_rfl
@[simp] theorem Try.cells159 : Try.prog.cellsOf 159 = 1 := by kernel_rfl
@[simp] theorem Try.bytes159 : Try.prog.bytesOf 159 = 8 := by kernel_rfl
@[simp] theorem Try.zc159 : zcells Try.prog 159 = some [.nilfn] := by kernel_rfl
@[simp] theorem Try.zl159 : zlen Try.prog 159 = 1 := by kernel_rfl
@[simp] theorem Try.cells160 : Try.prog.cellsOf 160 = 1 := by kernel_rfl
@[simp] theorem Try.bytes160 : Try.prog.bytesOf 160 = 8 := by kernel_rfl
@[simp] theorem Try.zc160 : zcells Try.prog 160 = some [.nilfn] := by kernel_rfl
@[simp] theorem Try.zl160 : zlen Try.prog 160 = 1 := by kernel_rfl
@[simp] theorem Try.cells161 : Try.prog.cellsOf 161 = 1 := by kernel_rfl
@[simp] theorem Try.bytes161 : Try.prog.bytesOf 161 = 8 := by kernel_rfl
@[simp] theorem Try.zc161 : zcells Try.prog 161 = some [.nilfn] := by kernel_rfl
@[simp] theorem Try.zl161 : zlen Try.prog 161 = 1 := by kernel_rfl
@[simp] theorem Try.cells162 : Try.prog.cellsOf 162 = 1 := by kernel_rfl
@[simp] theorem Try.bytes162 : Try.prog.bytesOf 162 = 8 := by kernel_rfl
@[simp] theorem Try.zc162 : zcells Try.prog 162 = some [.nilfn] := by kernel_rfl
@[simp] theorem Try.zl162 : zlen Try.prog 162 = 1 := by kernel_rfl
@[simp] theorem Try.cells163 : Try.prog.cellsOf 163 = 1 := by kernel_rfl
@[simp] theorem Try.bytes163 : Try.prog.bytesOf 163 = 8 := by kernel_rfl
@[simp] theorem Try.zc163 : zcells Try.prog 163 = some [.nilfn] := by kernel_rfl
@[simp] theorem Try.zl163 : zlen Try.prog 163 = 1 := by kernel_rfl
@[simp] theorem Try.cells164 : Try.prog.cellsOf 164 = 1 := by kernel_rfl
@[simp] theorem Try.bytes164 : Try.prog.bytesOf 164 = 8 := by kernel_rfl
@[simp] theorem Try.zc164 : zcells Try.prog 164 = some [.nilfn] := by kernel_rfl
@[simp] theorem Try.zl164 : zlen Try.prog 164 = 1 := by kernel_rfl
@[simp] theorem Try.cells165 : Try.prog.cellsOf 165 = 1 := by kernel_rfl
@[simp] theorem Try.bytes165 : Try.prog.bytesOf 165 = 8 := by kernel_rfl
@[simp] theorem Try.zc165 : zcells Try.prog 165 = some [.nilfn] := by kernel_rfl
@[simp] theorem Try.zl165 : zlen Try.prog 165 = 1 := by kernel_rfl
@[simp] theorem Try.cells166 : Try.prog.cellsOf 166 = 1 := by kernel_rfl
@[simp] theorem Try.bytes166 : Try.prog.bytesOf 166 = 8 := by kernel_rfl
@[simp] theorem Try.zc166 : zcells Try.prog 166 = some [.nilfn] := by kernel_rfl
@[simp] theorem Try.zl166 : zlen Try.prog 166 = 1 := by kernel_rfl
@[simp] theorem Try.cells167 : Try.prog.cellsOf 167 = 1 := by kernel_rfl
@[simp] theorem Try.bytes167 : Try.prog.bytesOf 167 = 8 := by kernel_rfl
@[simp] theorem Try.zc167 : zcells Try.prog 167 = some [.nilfn] := by kernel_rfl
@[simp] theorem Try.zl167 : zlen Try.prog 167 = 1 := by kernel_rfl
@[simp] theorem Try.cells168 : Try.prog.cellsOf 168 = 1 := by kernel_rfl
@[simp] theorem Try.bytes168 : Try.prog.bytesOf 168 = 8 := by kernel_rfl
@[simp] theorem Try.zc168 : zcells Try.prog 168 = some [.nilfn] := by kernel_rfl
@[simp] theorem Try.zl168 : zlen Try.prog 168 = 1 := by kernel_rfl
@[simp] theorem Try.cells169 : Try.prog.cellsOf 169 = 1 := by kernel_rfl
@[simp] theorem Try.bytes169 : Try.prog.bytesOf 169 = 8 := by kernel_rfl
@[simp] theorem Try.zc169 : zcells Try.prog 169 = some [.nilfn] := by kernel_rfl
@[simp] theorem Try.zl169 : zlen Try.prog 169 = 1 := by kernel_rfl
@[simp] theorem Try.cells170 : Try.prog.cellsOf 170 = 1 := by kernel_rfl
@[simp] theorem Try.bytes170 : Try.prog.bytesOf 170 = 8 := by kernel_rfl
@[simp] theorem Try.zc170 : zcells Try.prog 170 = some [.nilfn] := by kernel_rfl
@[simp] theorem Try.zl170 : zlen Try.prog 170 = 1 := by kernel_rfl
@[simp] theorem Try.cells171 : Try.prog.cellsOf 171 = 1 := by kernel_rfl
@[simp] theorem Try.bytes171 : Try.prog.bytesOf 171 = 8 := by kernel_rfl
@[simp] theorem Try.zc171 : zcells Try.prog 171 = some [.nilfn] := by kernel_rfl
@[simp] theorem Try.zl171 : zlen Try.prog 171 = 1 := by kernel_rfl
@[simp] theorem Try.cells172 : Try.prog.cellsOf 172 = 1 := by kernel_rfl
@[simp] theorem Try.bytes172 : Try.prog.bytesOf 172 = 8 := by kernel_rfl
@[simp] theorem Try.zc172 : zcells Try.prog 172 = some [.nilfn] := by kernel_rfl
@[simp] theorem Try.zl172 : zlen Try.prog 172 = 1 := by kernel_rfl
@[simp] theorem Try.cells174 : Try.prog.cellsOf 174 = 1 := by kernel_rfl
@[simp] theorem Try.bytes174 : Try.prog.bytesOf 174 = 8 := by kernel_rfl
@[simp] theorem Try.zc174 : zcells Try.prog 174 = some [.nilfn] := by kernel_rfl
@[simp] theorem Try.zl174 : zlen Try.prog 174 = 1 := by kernel_rfl
@[simp] theorem Try.cells175 : Try.prog.cellsOf 175 = 1 := by kernel_rfl
@[simp] theorem Try.bytes175 : Try.prog.bytesOf 175 = 8 := by kernel_rfl
@[simp] theorem Try.zc175 : zcells Try.prog 175 = some [.nilfn] := by kernel_rfl
@[simp] theorem Try.zl175 : zlen Try.prog 175 = 1 := by kernel_rfl
@[simp] theorem Try.cells176 : Try.prog.cellsOf 176 = 1 := by kernel_rfl
@[simp] theorem Try.bytes176 : Try.prog.bytesOf 176 = 8 := by kernel_rfl
@[simp] theorem Try.zc176 : zcells Try.prog 176 = some [.nilfn] := by kernel_rfl
@[simp] theorem Try.zl176 : zlen Try.prog 176 = 1 := by kernel_rfl
@[simp] theorem Try.cells177 : Try.prog.cellsOf 177 = 1 := by kernel_rfl
@[simp] theorem Try.bytes177 : Try.prog.bytesOf 177 = 1 := by kernel_rfl
@[simp] theorem Try.zc177 : zcells Try.prog 177 = some [.int .u8 0] := by kernel_rfl
@[simp] theorem Try.zl177 : zlen Try.prog 177 = 1 := by kernel_rfl
@[simp] theorem Try.cells178 : Try.prog.cellsOf 178 = 1 := by kernel_rfl
@[simp] theorem Try.bytes178 : Try.prog.bytesOf 178 = 8 := by kernel_rfl
@[simp] theorem Try.zc178 : zcells Try.prog 178 = some [.nilfn] := by kernel_rfl
@[simp] theorem Try.zl178 : zlen Try.prog 178 = 1 := by kernel_rfl
@[simp] theorem Try.cells179 : Try.prog.cellsOf 179 = 1 := by kernel_rfl
@[simp] theorem Try.bytes179 : Try.prog.bytesOf 179 = 8 := by kernel_rfl
@[simp] theorem Try.zc179 : zcells Try.prog 179 = some [.nilfn] := by kernel_rfl
@[simp] theorem Try.zl179 : zlen Try.prog 179 = 1 := by kernel_rfl
@[simp] theorem Try.cells180 : Try.prog.cellsOf 180 = 2 := by kernel_rfl
@[simp] theorem Try.bytes180 : Try.prog.bytesOf 180 = 8 := by kernel_rfl
@[simp] theorem Try.zc180 : zcells Try.prog 180 = some [.int .u32 0, .int .u32 0] := by kernel_rfl
@[simp] theorem Try.zl180 : zlen Try.prog 180 = 2 := by kernel_rfl
@[simp] theorem Try.eqa180 (x0 y0 : Int) (x1 y1 : Int) : EqA Try.prog 180 [.int .u32 x0, .int .u32 x1] [.int .u32 y0, .int .u32 y1] :=
  EqA_of (l := [.int .u32, .int .u32]) 6 (by kernel_rfl) (by kernel_rfl) (by kernel_rfl) (by kernel_rfl) (by omega) (by simp [LSS, SSh]) (by simp [LSS, SSh])
@[simp] theorem Try.cells181 : Try.prog.cellsOf 181 = 2 := by kernel_rfl
@[simp] theorem Try.bytes181 : Try.prog.bytesOf 181 = 8 := by kernel_rfl
@[simp] theorem Try.zc181 : zcells Try.prog 181 = some [.int .u32 0, .int .u32 0] := by kernel_rfl
@[simp] theorem Try.zl181 : zlen Try.prog 181 = 2 := by kernel_rfl
@[simp] theorem Try.eqa181 (x0 y0 : Int) (x1 y1 : Int) : EqA Try.prog 181 [.int .u32 x0, .int .u32 x1] [.int .u32 y0, .int .u32 y1] :=
  EqA_of (l := [.int .u32, .int .u32]) 6 (by kernel_rfl) (by kernel_rfl) (by kernel_rfl) (by kernel_rfl) (by omega) (by simp [LSS, SSh]) (by simp [LSS, SSh])
@[simp] theorem Try.cells182 : Try.prog.cellsOf 182 = 1 := by kernel_rfl
@[simp] theorem Try.bytes182 : Try.prog.bytesOf 182 = 8 := by kernel_rfl
@[simp] theorem Try.zc182 : zcells Try.prog 182 = some [.nilfn] := by kernel_rfl
@[simp] theorem Try.zl182 : zlen Try.prog 182 = 1 := by kernel_rfl
@[simp] theorem Try.cells183 : Try.prog.cellsOf 183 = 1 := by kernel_rfl
@[simp] theorem Try.bytes183 : Try.prog.bytesOf 183 = 8 := by kernel_rfl
@[simp] theorem Try.zc183 : zcells Try.prog 183 = some [.nilfn] := by kernel_rfl
@[simp] theorem Try.zl183 : zlen Try.prog 183 = 1 := by kernel_rfl
@[simp] theorem Try.cells184 : Try.prog.cellsOf 184 = 1 := by kernel_rfl
@[simp] theorem Try.bytes184 : Try.prog.bytesOf 184 = 8 := by kernel_rfl
@[simp] theorem Try.zc184 : zcells Try.prog 184 = some [.nilfn] := by kernel_rfl
@[simp] theorem Try.zl184 : zlen Try.prog 184 = 1 := by kernel_rfl
@[simp] theorem Try.cells185 : Try.prog.cellsOf 185 = 1 := by kernel_rfl
@[simp] theorem Try.bytes185 : Try.prog.bytesOf 185 = 8 := by kernel_rfl
@[simp] theorem Try.zc185 : zcells Try.prog 185 = some [.nilfn] := by kernel_rfl
@[simp] theorem Try.zl185 : zlen Try.prog 185 = 1 := by kernel_rfl
@[simp] theorem Try.cells186 : Try.prog.cellsOf 186 = 1 := by kernel_rfl
@[simp] theorem Try.bytes186 : Try.prog.bytesOf 186 = 8 := by kernel_rfl
@[simp] theorem Try.zc186 : zcells Try.prog 186 = some [.nilfn] := by kernel_rfl
@[simp] theorem Try.zl186 : zlen Try.prog 186 = 1 := by kernel_rfl
@[simp] theorem Try.cells187 : Try.prog.cellsOf 187 = 1 := by kernel_rfl
@[simp] theorem Try.bytes187 : Try.prog.bytesOf 187 = 8 := by kernel_rfl
@[simp] theorem Try.zc187 : zcells Try.prog 187 = some [.nilfn] := by kernel_rfl
@[simp] theorem Try.zl187 : zlen Try.prog 187 = 1 := by kernel_rfl
@[simp] theorem Try.cells188 : Try.prog.cellsOf 188 = 1 := by kernel_rfl
@[simp] theorem Try.bytes188 : Try.prog.bytesOf 188 = 8 := by kernel_rfl
@[simp] theorem Try.zc188 : zcells Try.prog 188 = some [.nilfn] := by kernel_rfl
@[simp] theorem Try.zl188 : zlen Try.prog 188 = 1 := by kernel_rfl
@[simp] theorem Try.cells189 : Try.prog.cellsOf 189 = 1 := by kernel_rfl
@[simp] theorem Try.bytes189 : Try.prog.bytesOf 189 = 8 := by kernel_rfl
@[simp] theorem Try.zc189 : zcells Try.prog 189 = some [.nilfn] := by kernel_rfl
@[simp] theorem Try.zl189 : zlen Try.prog 189 = 1 := by kernel_rfl
@[simp] theorem Try.cells190 : Try.prog.cellsOf 190 = 1 := by kernel_rfl
@[simp] theorem Try.bytes190 : Try.prog.bytesOf 190 = 8 := by kernel_rfl
@[simp] theorem Try.zc190 : zcells Try.prog 190 = some [.nilfn] := by kernel_rfl
@[simp] theorem Try.zl190 : zlen Try.prog 190 = 1 := by kernel_rfl
@[simp] theorem Try.cells191 : Try.prog.cellsOf 191 = 1 := by kernel_rfl
@[simp] theorem Try.bytes191 : Try.prog.bytesOf 191 = 8 := by kernel_rfl
@[simp] theorem Try.zc191 : zcells Try.prog 191 = some [.nilfn] := by kernel_rfl
@[simp] theorem Try.zl191 : zlen Try.prog 191 = 1 := by kernel_rfl
@[simp] theorem Try.cells192 : Try.prog.cellsOf 192 = 1 := by kernel_rfl
@[simp] theorem Try.bytes192 : Try.prog.bytesOf 192 = 8 := by kernel_rfl
@[simp] theorem Try.zc192 : zcells Try.prog 192 = some [.nilfn] := by kernel_rfl
@[simp] theorem Try.zl192 : zlen Try.prog 192 = 1 := by kernel_rfl
@[simp] theorem Try.cells193 : Try.prog.cellsOf 193 = 1 := by kernel_rfl
@[simp] theorem Try.bytes193 : Try.prog.bytesOf 193 = 8 := by kernel_rfl
@[simp] theorem Try.zc193 : zcells Try.prog 193 = some [.nilfn] := by kernel_rfl
@[simp] theorem Try.zl193 : zlen Try.prog 193 = 1 := by kernel_rfl
@[simp] theorem Try.cells194 : Try.prog.cellsOf 194 = 1 := by kernel_rfl
@[simp] theorem Try.bytes194 : Try.prog.bytesOf 194 = 8 := by kernel_rfl
@[simp] theorem Try.zc194 : zcells Try.prog 194 = some [.nilfn] := by kernel_rfl
@[simp] theorem Try.zl194 : zlen Try.prog 194 = 1 := by kernel_rfl
@[simp] theorem Try.cells195 : Try.prog.cellsOf 195 = 1 := by kernel_rfl
@[simp] theorem Try.bytes195 : Try.prog.bytesOf 195 = 8 := by kernel_rfl
@[simp] theorem Try.zc195 : zcells Try.prog 195 = some [.nilfn] := by kernel_rfl
@[simp] theorem Try.zl195 : zlen Try.prog 195 = 1 := by kernel_rfl
@[simp] theorem Try.cells196 : Try.prog.cellsOf 196 = 1 := by kernel_rfl
@[simp] theorem Try.bytes196 : Try.prog.bytesOf 196 = 8 := by kernel_rfl
@[simp] theorem Try.zc196 : zcells Try.prog 196 = some [.nilfn] := by kernel_rfl
@[simp] theorem Try.zl196 : zlen Try.prog 196 = 1 := by kernel_rfl
@[simp] theorem Try.cells197 : Try.prog.cellsOf 197 = 1 := by kernel_rfl
@[simp] theorem Try.bytes197 : Try.prog.bytesOf 197 = 8 := by kernel_rfl
@[simp] theorem Try.zc197 : zcells Try.prog 197 = some [.nilfn] := by kernel_rfl
@[simp] theorem Try.zl197 : zlen Try.prog 197 = 1 := by kernel_rfl
@[simp] theorem Try.cells198 : Try.prog.cellsOf 198 = 1 := by kernel_rfl
@[simp] theorem Try.bytes198 : Try.prog.bytesOf 198 = 8 := by kernel_rfl
@[simp] theorem Try.zc198 : zcells Try.prog 198 = some [.nilfn] := by kernel_rfl
@[simp] theorem Try.zl198 : zlen Try.prog 198 = 1 := by kernel_rfl
@[simp] theorem Try.cells200 : Try.prog.cellsOf 200 = 1 := by kernel_rfl
@[simp] theorem Try.bytes200 : Try.prog.bytesOf 200 = 8 := by kernel_rfl
@[simp] theorem Try.zc200 : zcells Try.prog 200 = some [.nilfn] := by kernel_rfl
@[simp] theorem Try.zl200 : zlen Try.prog 200 = 1 := by kernel_rfl
@[simp] theorem Try.cells201 : Try.prog.cellsOf 201 = 1 := by kernel_rfl
@[simp] theorem Try.bytes201 : Try.prog.bytesOf 201 = 24 := by kernel_rfl
@[simp] theorem Try.zc201 : zcells Try.prog 201 = some [.nils] := by kernel_rfl
@[simp] theorem Try.zl201 : zlen Try.prog 201 = 1 := by kernel_rfl
@[simp] theorem Try.cells202 : Try.prog.cellsOf 202 = 1 := by kernel_rfl
@[simp] theorem Try.bytes202 : Try.prog.bytesOf 202 = 8 := by kernel_rfl
@[simp] theorem Try.zc202 : zcells Try.prog 202 = some [.nilfn] := by kernel_rfl
@[simp] theorem Try.zl202 : zlen Try.prog 202 = 1 := by kernel_rfl
@[simp] theorem Try.cells203 : Try.prog.cellsOf 203 = 1 := by kernel_rfl
@[simp] theorem Try.bytes203 : Try.prog.bytesOf 203 = 8 := by kernel_rfl
@[simp] theorem Try.zc203 : zcells Try.prog 203 = some [.nilfn] := by kernel_rfl
@[simp] theorem Try.zl203 : zlen Try.prog 203 = 1 := by kernel_rfl
@[simp] theorem Try.cells204 : Try.prog.cellsOf 204 = 1 := by kernel_rfl
@[simp] theorem Try.bytes204 : Try.prog.bytesOf 204 = 8 := by kernel_rfl
@[simp] theorem Try.zc204 : zcells Try.prog 204 = some [.nilfn] := by kernel_rfl
@[simp] theorem Try.zl204 : zlen Try.prog 204 = 1 := by kernel_rfl
@[simp] theorem Try.cells205 : Try.prog.cellsOf 205 = 1 := by kernel_rfl
@[simp] theorem Try.bytes205 : Try.prog.bytesOf 205 = 8 := by kernel_rfl
@[simp] theorem Try.zc205 : zcells Try.prog 205 = some [.nilfn] := by kernel_rfl
@[simp] theorem Try.zl205 : zlen Try.prog 205 = 1 := by kernel_rfl
@[simp] theorem Try.cells206 : Try.prog.cellsOf 206 = 1 := by kernel_rfl
@[simp] theorem Try.bytes206 : Try.prog.bytesOf 206 = 8 := by kernel_rfl
@[simp] theorem Try.zc206 : zcells Try.prog 206 = some [.nilfn] := by kernel_rfl
@[simp] theorem Try.zl206 : zlen Try.prog 206 = 1 := by kernel_rfl
@[simp] theorem Try.cells207 : Try.prog.cellsOf 207 = 1 := by kernel_rfl
@[simp] theorem Try.bytes207 : Try.prog.bytesOf 207 = 8 := by kernel_rfl
@[simp] theorem Try.zc207 : zcells Try.prog 207 = some [.nilfn] := by kernel_rfl
@[simp] theorem Try.zl207 : zlen Try.prog 207 = 1 := by kernel_rfl
@[simp] theorem Try.cells208 : Try.prog.cellsOf 208 = 1 := by kernel_rfl
@[simp] theorem Try.bytes208 : Try.prog.bytesOf 208 = 8 := by kernel_rfl
@[simp] theorem Try.zc208 : zcells Try.prog 208 = some [.nilfn] := by kernel_rfl
@[simp] theorem Try.zl208 : zlen Try.prog 208 = 1 := by kernel_rfl
@[simp] theorem Try.cells209 : Try.prog.cellsOf 209 = 1 := by kernel_rfl
@[simp] theorem Try.bytes209 : Try.prog.bytesOf 209 = 8 := by kernel_rfl
@[simp] theorem Try.zc209 : zcells Try.prog 209 = some [.int .i64 0] := by kernel_rfl
@[simp] theorem Try.zl209 : zlen Try.prog 209 = 1 := by kernel_rfl
@[simp] theorem Try.cells211 : Try.prog.cellsOf 211 = 1 := by kernel_rfl
@[simp] theorem Try.bytes211 : Try.prog.bytesOf 211 = 8 := by kernel_rfl
@[simp] theorem Try.zc211 : zcells Try.prog 211 = some [.nilfn] := by kernel_rfl
@[simp] theorem Try.zl211 : zlen Try.prog 211 = 1 := by kernel_rfl
@[simp] theorem Try.cells212 : Try.prog.cellsOf 212 = 1 := by kernel_rfl
@[simp] theorem Try.bytes212 : Try.prog.bytesOf 212 = 8 := by kernel_rfl
@[simp] theorem Try.zc212 : zcells Try.prog 212 = some [.nilfn] := by kernel_rfl
@[simp] theorem Try.zl212 : zlen Try.prog 212 = 1 := by kernel_rfl
@[simp] theorem Try.cells213 : Try.prog.cellsOf 213 = 1 := by kernel_rfl
@[simp] theorem Try.bytes213 : Try.prog.bytesOf 213 = 8 := by kernel_rfl
@[simp] theorem Try.zc213 : zcells Try.prog 213 = some [.nilfn] := by kernel_rfl
@[simp] theorem Try.zl213 : zlen Try.prog 213 = 1 := by kernel_rfl
@[simp] theorem Try.cells215 : Try.prog.cellsOf 215 = 1 := by kernel_rfl
@[simp] theorem Try.bytes215 : Try.prog.bytesOf 215 = 8 := by kernel_rfl
@[simp] theorem Try.zc215 : zcells Try.prog 215 = some [.nilfn] := by kernel_rfl
@[simp] theorem Try.zl215 : zlen Try.prog 215 = 1 := by kernel_rfl
@[simp] theorem Try.cells217 : Try.prog.cellsOf 217 = 1 := by kernel_rfl
@[simp] theorem Try.bytes217 : Try.prog.bytesOf 217 = 8 := by kernel_rfl
@[simp] theorem Try.zc217 : zcells Try.prog 217 = some [.nilfn] := by kernel_rfl
@[simp] theorem Try.zl217 : zlen Try.prog 217 = 1 := by kernel_rfl
@[simp] theorem Try.cells218 : Try.prog.cellsOf 218 = 1 := by kernel_rfl
@[simp] theorem Try.bytes218 : Try.prog.bytesOf 218 = 8 := by kernel_rfl
@[simp] theorem Try.zc218 : zcells Try.prog 218 = some [.nilfn] := by kernel_rfl
@[simp] theorem Try.zl218 : zlen Try.prog 218 = 1 := by kernel_rfl
@[simp] theorem Try.cells219 : Try.prog.cellsOf 219 = 1 := by kernel_rfl
@[simp] theorem Try.bytes219 : Try.prog.bytesOf 219 = 8 := by kernel_rfl
@[simp] theorem Try.zc219 : zcells Try.prog 219 = some [.nilfn] := by kernel_rfl
@[simp] theorem Try.zl219 : zlen Try.prog 219 = 1 := by kernel_rfl
@[simp] theorem Try.cells220 : Try.prog.cellsOf 220 = 1 := by kernel_rfl
@[simp] theorem Try.bytes220 : Try.prog.bytesOf 220 = 8 := by kernel_rfl
@[simp] theorem Try.zc220 : zcells Try.prog 220 = some [.int .u64 0] := by kernel_rfl
@[simp] theorem Try.zl220 : zlen Try.prog 220 = 1 := by kernel_rfl
@[simp] theorem Try.cells221 : Try.prog.cellsOf 221 = 1 := by kernel_rfl
@[simp] theorem Try.bytes221 : Try.prog.bytesOf 221 = 8 := by kernel_rfl
@[simp] theorem Try.zc221 : zcells Try.prog 221 = some [.nilfn] := by kernel_rfl
@[simp] theorem Try.zl221 : zlen Try.prog 221 = 1 := by kernel_rfl
@[simp] theorem Try.cells222 : Try.prog.cellsOf 222 = 1 := by kernel_rfl
@[simp] theorem Try.bytes222 : Try.prog.bytesOf 222 = 8 := by kernel_rfl
@[simp] theorem Try.zc222 : zcells Try.prog 222 = some [.nilfn] := by kernel_rfl
@[simp] theorem Try.zl222 : zlen Try.prog 222 = 1 := by kernel_rfl
@[simp] theorem Try.cells223 : Try.prog.cellsOf 223 = 1 := by kernel_rfl
@[simp] theorem Try.bytes223 : Try.prog.bytesOf 223 = 8 := by kernel_rfl
@[simp] theorem Try.zc223 : zcells Try.prog 223 = some [.nilfn] := by kernel_rfl
@[simp] theorem Try.zl223 : zlen Try.prog 223 = 1 := by kernel_rfl
@[simp] theorem Try.cells224 : Try.prog.cellsOf 224 = 1 := by kernel_rfl
@[simp] theorem Try.bytes224 : Try.prog.bytesOf 224 = 8 := by kernel_rfl
@[simp] theorem Try.zc224 : zcells Try.prog 224 = some [.nilp] := by kernel_rfl
@[simp] theorem Try.zl224 : zlen Try.prog 224 = 1 := by kernel_rfl
@[simp] theorem Try.cells225 : Try.prog.cellsOf 225 = 1 := by kernel_rfl
@[simp] theorem Try.bytes225 : Try.prog.bytesOf 225 = 8 := by kernel_rfl
@[simp] theorem Try.zc225 : zcells Try.prog 225 = some [.nilfn] := by kernel_rfl
@[simp] theorem Try.zl225 : zlen Try.prog 225 = 1 := by kernel_rfl
@[simp] theorem Try.cells226 : Try.prog.cellsOf 226 = 1 := by kernel_rfl
@[simp] theorem Try.bytes226 : Try.prog.bytesOf 226 = 8 := by kernel_rfl
@[simp] theorem Try.zc226 : zcells Try.prog 226 = some [.nilp] := by kernel_rfl
@[simp] theorem Try.zl226 : zlen Try.prog 226 = 1 := by kernel_rfl
@[simp] theorem Try.cells228 : Try.prog.cellsOf 228 = 1 := by kernel_rfl
@[simp] theorem Try.bytes228 : Try.prog.bytesOf 228 = 8 := by kernel_rfl
@[simp] theorem Try.zc228 : zcells Try.prog 228 = some [.nilfn] := by kernel_rfl
@[simp] theorem Try.zl228 : zlen Try.prog 228 = 1 := by kernel_rfl
@[simp] theorem Try.cells229 : Try.prog.cellsOf 229 = 1 := by kernel_rfl
@[simp] theorem Try.bytes229 : Try.prog.bytesOf 229 = 8 := by kernel_rfl
@[simp] theorem Try.zc229 : zcells Try.prog 229 = some [.nilfn] := by kernel_rfl
@[simp] theorem Try.zl229 : zlen Try.prog 229 = 1 := by kernel_rfl
@[simp] theorem Try.cells230 : Try.prog.cellsOf 230 = 4 := by kernel_rfl
@[simp] theorem Try.bytes230 : Try.prog.bytesOf 230 = 40 := by kernel_rfl
@[simp] theorem Try.zc230 : zcells Try.prog 230 = some [.nilp, .nilp, .nilp, .str ByteArray.empty] := by kernel_rfl
@[simp] theorem Try.zl230 : zlen Try.prog 230 = 4 := by kernel_rfl
@[simp] theorem Try.cells231 : Try.prog.cellsOf 231 = 4 := by kernel_rfl
@[simp] theorem Try.bytes231 : Try.prog.bytesOf 231 = 40 := by kernel_rfl
@[simp] theorem Try.zc231 : zcells Try.prog 231 = some [.nilp, .nilp, .nilp, .str ByteArray.empty] := by kernel_rfl
@[simp] theorem Try.zl231 : zlen Try.prog 231 = 4 := by kernel_rfl
@[simp] theorem Try.cells232 : Try.prog.cellsOf 232 = 0 := by kernel_rfl
@[simp] theorem Try.bytes232 : Try.prog.bytesOf 232 = 0 := by kernel_rfl
@[simp] theorem Try.zc232 : zcells Try.prog 232 = some [] := by kernel_rfl
@[simp] theorem Try.zl232 : zlen Try.prog 232 = 0 := by kernel_rfl
@[simp] theorem Try.cells233 : Try.prog.cellsOf 233 = 0 := by kernel_rfl
@[simp] theorem Try.bytes233 : Try.prog.bytesOf 233 = 0 := by kernel_rfl
@[simp] theorem Try.zc233 : zcells Try.prog 233 = some [] := by kernel_rfl
@[simp] theorem Try.zl233 : zlen Try.prog 233 = 0 := by kernel_rfl
@[simp] theorem Try.cells234 : Try.prog.cellsOf 234 = 0 := by kernel_rfl
@[simp] theorem Try.bytes234 : Try.prog.bytesOf 234 = 0 := by kernel_rfl
@[simp] theorem Try.zc234 : zcells Try.prog 234 = some [] := by kernel_rfl
@[simp] theorem Try.zl234 : zlen Try.prog 234 = 0 := by kernel_rfl
@[simp] theorem Try.cells235 : Try.prog.cellsOf 235 = 1 := by kernel_rfl
@[simp] theorem Try.bytes235 : Try.prog.bytesOf 235 = 1 := by kernel_rfl
@[simp] theorem Try.zc235 : zcells Try.prog 235 = some [.int .u8 0] := by kernel_rfl
@[simp] theorem Try.zl235 : zlen Try.prog 235 = 1 := by kernel_rfl
@[simp] theorem Try.cells236 : Try.prog.cellsOf 236 = 1 := by kernel_rfl
@[simp] theorem Try.bytes236 : Try.prog.bytesOf 236 = 1 := by kernel_rfl
@[simp] theorem Try.zc236 : zcells Try.prog 236 = some [.int .u8 0] := by kernel_rfl
@[simp] theorem Try.zl236 : zlen Try.prog 236 = 1 := by kernel_rfl
@[simp] theorem Try.cells237 : Try.prog.cellsOf 237 = 1 := by kernel_rfl
@[simp] theorem Try.bytes237 : Try.prog.bytesOf 237 = 8 := by kernel_rfl
@[simp] theorem Try.zc237 : zcells Try.prog 237 = some [.nilfn] := by kernel_rfl
@[simp] theorem Try.zl237 : zlen Try.prog 237 = 1 := by kernel_rfl
@[simp] theorem Try.cells238 : Try.prog.cellsOf 238 = 1 := by kernel_rfl
@[simp] theorem Try.bytes238 : Try.prog.bytesOf 238 = 8 := by kernel_rfl
@[simp] theorem Try.zc238 : zcells Try.prog 238 = some [.nilp] := by kernel_rfl
@[simp] theorem Try.zl238 : zlen Try.prog 238 = 1 := by kernel_rfl
@[simp] theorem Try.cells239 : Try.prog.cellsOf 239 = 1 := by kernel_rfl
@[simp] theorem Try.bytes239 : Try.prog.bytesOf 239 = 4 := by kernel_rfl
@[simp] theorem Try.zc239 : zcells Try.prog 239 = some [.int .i32 0] := by kernel_rfl
@[simp] theorem Try.zl239 : zlen Try.prog 239 = 1 := by kernel_rfl
@[simp] theorem Try.cells240 : Try.prog.cellsOf 240 = 1 := by kernel_rfl
@[simp] theorem Try.bytes240 : Try.prog.bytesOf 240 = 4 := by kernel_rfl
@[simp] theorem Try.zc240 : zcells Try.prog 240 = some [.int .i32 0] := by kernel_rfl
@[simp] theorem Try.zl240 : zlen Try.prog 240 = 1 := by kernel_rfl
@[simp] theorem Try.cells241 : Try.prog.cellsOf 241 = 11 := by kernel_rfl
@[simp] theorem Try.bytes241 : Try.prog.bytesOf 241 = 48 := by kernel_rfl
@[simp] theorem Try.zc241 : zcells Try.prog 241 = some [.int .u64 0, .int .u64 0, .int .u32 0, .int .u8 0, .int .u8 0, .int .u8 0, .int .u8 0, .nilfn, .nilp, .int .i32 0, .int .i32 0] := by kernel_rfl
@[simp] theorem Try.zl241 : zlen Try.prog 241 = 11 := by kernel_rfl
@[simp] theorem Try.cells242 : Try.prog.cellsOf 242 = 11 := by kernel_rfl
@[simp] theorem Try.bytes242 : Try.prog.bytesOf 242 = 48 := by kernel_rfl
@[simp] theorem Try.zc242 : zcells Try.prog 242 = some [.int .u64 0, .int .u64 0, .int .u32 0, .int .u8 0, .int .u8 0, .int .u8 0, .int .u8 0, .nilfn, .nilp, .int .i32 0, .int .i32 0] := by kernel_rfl
@[simp] theorem Try.zl242 : zlen Try.prog 242 = 11 := by kernel_rfl
@[simp] theorem Try.cells243 : Try.prog.cellsOf 243 = 1 := by kernel_rfl
@[simp] theorem Try.bytes243 : Try.prog.bytesOf 243 = 8 := by kernel_rfl
@[simp] theorem Try.zc243 : zcells Try.prog 243 = some [.nilp] := by kernel_rfl
@[simp] theorem Try.zl243 : zlen Try.prog 243 = 1 := by kernel_rfl

theorem mixed : Try.prog.follows .mixedOrders = true := by kernel_rfl
instance : Gl Try.prog := ⟨fun _ => .junk, fun _ => rfl⟩

end Go.Proofs.Ythfbddnpakhjiaa.AL
