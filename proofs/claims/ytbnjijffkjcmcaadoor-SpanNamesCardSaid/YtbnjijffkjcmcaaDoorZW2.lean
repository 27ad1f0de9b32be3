import Derived.Test.YtbnjijffkjcmcaaDoorZW1
import Derived.Lib.ItoaNum
import Derived.Test.YtbnjijffkjcmcaaDoorProg
/- What single functions compute: a part of the proof; no conditions. -/
set_option linter.unusedVariables false
set_option linter.unusedSimpArgs false
set_option maxRecDepth 100000
namespace Go.Proofs.YtbnjijffkjcmcaaDoor.AL
open Go
attribute [local simp] qf cv qbin ibin sbin qun retPost rvOk ctV ctPost marksOk retV resAll resOf V.lt ltL V.ren renL V.exp V.exp1 cleanL V.clean closedL V.closed V.cells V.one V.tree
  loadV cellsAt isNC nilQ isSlD isIfD slNew ownRows ownCells V.isOwn slStore srcO qlook mlook mget mstr zval qnone qmake mput lmap isAggD placesOf fillV putCells lstore bound seqParts V.sh shL Blk.sh newV V.ok peqs peq srcRows qbytes byteSl appOk mmV mmR hidE V.fz fzL Blk.fz fzOk and_assoc
attribute [-simp] Int.not_le Int.not_lt Nat.not_le Nat.not_lt
@[simp] theorem Tryd.cells1 : Tryd.prog.cellsOf 1 = 1 := by kernel_rfl
@[simp] theorem Tryd.bytes1 : Tryd.prog.bytesOf 1 = 8 := by kernel_rfl
@[simp] theorem Tryd.zc1 : zcells Tryd.prog 1 = some [.nilfn] := by kernel_rfl
@[simp] theorem Tryd.zl1 : zlen Tryd.prog 1 = 1 := by kernel_rfl
@[simp] theorem Tryd.cells2 : Tryd.prog.cellsOf 2 = 1 := by kernel_rfl
@[simp] theorem Tryd.bytes2 : Tryd.prog.bytesOf 2 = 8 := by kernel_rfl
@[simp] theorem Tryd.zc2 : zcells Tryd.prog 2 = some [.int .i64 0] := by kernel_rfl
@[simp] theorem Tryd.zl2 : zlen Tryd.prog 2 = 1 := by kernel_rfl
@[simp] theorem Tryd.cells3 : Tryd.prog.cellsOf 3 = 1 := by kernel_rfl
@[simp] theorem Tryd.bytes3 : Tryd.prog.bytesOf 3 = 8 := by kernel_rfl
@[simp] theorem Tryd.zc3 : zcells Tryd.prog 3 = some [.int .i64 0] := by kernel_rfl
@[simp] theorem Tryd.zl3 : zlen Tryd.prog 3 = 1 := by kernel_rfl
@[simp] theorem Tryd.cells4 : Tryd.prog.cellsOf 4 = 1 := by kernel_rfl
@[simp] theorem Tryd.bytes4 : Tryd.prog.bytesOf 4 = 1 := by kernel_rfl
@[simp] theorem Tryd.zc4 : zcells Tryd.prog 4 = some [.bool false] := by kernel_rfl
@[simp] theorem Tryd.zl4 : zlen Tryd.prog 4 = 1 := by kernel_rfl
@[simp] theorem Tryd.cells5 : Tryd.prog.cellsOf 5 = 1 := by kernel_rfl
@[simp] theorem Tryd.bytes5 : Tryd.prog.bytesOf 5 = 1 := by kernel_rfl
@[simp] theorem Tryd.zc5 : zcells Tryd.prog 5 = some [.int .u8 0] := by kernel_rfl
@[simp] theorem Tryd.zl5 : zlen Tryd.prog 5 = 1 := by kernel_rfl
@[simp] theorem Tryd.cells6 : Tryd.prog.cellsOf 6 = 1 := by kernel_rfl
@[simp] theorem Tryd.bytes6 : Tryd.prog.bytesOf 6 = 1 := by kernel_rfl
@[simp] theorem Tryd.zc6 : zcells Tryd.prog 6 = some [.int .u8 0] := by kernel_rfl
@[simp] theorem Tryd.zl6 : zlen Tryd.prog 6 = 1 := by kernel_rfl
@[simp] theorem Tryd.cells7 : Tryd.prog.cellsOf 7 = 4 := by kernel_rfl
@[simp] theorem Tryd.bytes7 : Tryd.prog.bytesOf 7 = 24 := by kernel_rfl
@[simp] theorem Tryd.zc7 : zcells Tryd.prog 7 = some [.int .i64 0, .int .i64 0, .bool false, .int .u8 0] := by kernel_rfl
@[simp] theorem Tryd.zl7 : zlen Tryd.prog 7 = 4 := by kernel_rfl
@[simp] theorem Tryd.eqa7 (x0 y0 : Int) (x1 y1 : Int) (x2 y2 : Bool) (x3 y3 : Int) : EqA Tryd.prog 7 [.int .i64 x0, .int .i64 x1, .bool x2, .int .u8 x3] [.int .i64 y0, .int .i64 y1, .bool y2, .int .u8 y3] :=
  EqA_of (l := [.int .i64, .int .i64, .bool, .int .u8]) 6 (by kernel_rfl) (by kernel_rfl) (by kernel_rfl) (by kernel_rfl) (by omega) (by simp [LSS, SSh]) (by simp [LSS, SSh])
@[simp] theorem Tryd.cells8 : Tryd.prog.cellsOf 8 = 4 := by kernel_rfl
@[simp] theorem Tryd.bytes8 : Tryd.prog.bytesOf 8 = 24 := by kernel_rfl
@[simp] theorem Tryd.zc8 : zcells Tryd.prog 8 = some [.int .i64 0, .int .i64 0, .bool false, .int .u8 0] := by kernel_rfl
@[simp] theorem Tryd.zl8 : zlen Tryd.prog 8 = 4 := by kernel_rfl
@[simp] theorem Tryd.eqa8 (x0 y0 : Int) (x1 y1 : Int) (x2 y2 : Bool) (x3 y3 : Int) : EqA Tryd.prog 8 [.int .i64 x0, .int .i64 x1, .bool x2, .int .u8 x3] [.int .i64 y0, .int .i64 y1, .bool y2, .int .u8 y3] :=
  EqA_of (l := [.int .i64, .int .i64, .bool, .int .u8]) 6 (by kernel_rfl) (by kernel_rfl) (by kernel_rfl) (by kernel_rfl) (by omega) (by simp [LSS, SSh]) (by simp [LSS, SSh])
@[simp] theorem Tryd.cells9 : Tryd.prog.cellsOf 9 = 1 := by kernel_rfl
@[simp] theorem Tryd.bytes9 : Tryd.prog.bytesOf 9 = 16 := by kernel_rfl
@[simp] theorem Tryd.zc9 : zcells Tryd.prog 9 = some [.str ByteArray.empty] := by kernel_rfl
@[simp] theorem Tryd.zl9 : zlen Tryd.prog 9 = 1 := by kernel_rfl
@[simp] theorem Tryd.cells10 : Tryd.prog.cellsOf 10 = 1 := by kernel_rfl
@[simp] theorem Tryd.bytes10 : Tryd.prog.bytesOf 10 = 16 := by kernel_rfl
@[simp] theorem Tryd.zc10 : zcells Tryd.prog 10 = some [.str ByteArray.empty] := by kernel_rfl
@[simp] theorem Tryd.zl10 : zlen Tryd.prog 10 = 1 := by kernel_rfl
@[simp] theorem Tryd.cells11 : Tryd.prog.cellsOf 11 = 1 := by kernel_rfl
@[simp] theorem Tryd.bytes11 : Tryd.prog.bytesOf 11 = 16 := by kernel_rfl
@[simp] theorem Tryd.zc11 : zcells Tryd.prog 11 = some [.str ByteArray.empty] := by kernel_rfl
@[simp] theorem Tryd.zl11 : zlen Tryd.prog 11 = 1 := by kernel_rfl
@[simp] theorem Tryd.cells12 : Tryd.prog.cellsOf 12 = 1 := by kernel_rfl
@[simp] theorem Tryd.bytes12 : Tryd.prog.bytesOf 12 = 8 := by kernel_rfl
@[simp] theorem Tryd.zc12 : zcells Tryd.prog 12 = some [.int .u64 0] := by kernel_rfl
@[simp] theorem Tryd.zl12 : zlen Tryd.prog 12 = 1 := by kernel_rfl
@[simp] theorem Tryd.cells13 : Tryd.prog.cellsOf 13 = 2 := by kernel_rfl
@[simp] theorem Tryd.bytes13 : Tryd.prog.bytesOf 13 = 24 := by kernel_rfl
@[simp] theorem Tryd.zc13 : zcells Tryd.prog 13 = some [.str ByteArray.empty, .int .u64 0] := by kernel_rfl
@[simp] theorem Tryd.zl13 : zlen Tryd.prog 13 = 2 := by kernel_rfl
@[simp] theorem Tryd.cells14 : Tryd.prog.cellsOf 14 = 2 := by kernel_rfl
@[simp] theorem Tryd.bytes14 : Tryd.prog.bytesOf 14 = 24 := by kernel_rfl
@[simp] theorem Tryd.zc14 : zcells Tryd.prog 14 = some [.str ByteArray.empty, .int .u64 0] := by kernel_rfl
@[simp] theorem Tryd.zl14 : zlen Tryd.prog 14 = 2 := by kernel_rfl
@[simp] theorem Tryd.cells15 : Tryd.prog.cellsOf 15 = 1 := by kernel_rfl
@[simp] theorem Tryd.bytes15 : Tryd.prog.bytesOf 15 = 8 := by kernel_rfl
@[simp] theorem Tryd.zc15 : zcells Tryd.prog 15 = some [.nilp] := by kernel_rfl
@[simp] theorem Tryd.zl15 : zlen Tryd.prog 15 = 1 := by kernel_rfl
@[simp] theorem Tryd.cells16 : Tryd.prog.cellsOf 16 = 1 := by kernel_rfl
@[simp] theorem Tryd.bytes16 : Tryd.prog.bytesOf 16 = 8 := by kernel_rfl
@[simp] theorem Tryd.zc16 : zcells Tryd.prog 16 = some [.nilp] := by kernel_rfl
@[simp] theorem Tryd.zl16 : zlen Tryd.prog 16 = 1 := by kernel_rfl
@[simp] theorem Tryd.cells17 : Tryd.prog.cellsOf 17 = 1 := by kernel_rfl
@[simp] theorem Tryd.bytes17 : Tryd.prog.bytesOf 17 = 8 := by kernel_rfl
@[simp] theorem Tryd.zc17 : zcells Tryd.prog 17 = some [.nilp] := by kernel_rfl
@[simp] theorem Tryd.zl17 : zlen Tryd.prog 17 = 1 := by kernel_rfl
@[simp] theorem Tryd.cells18 : Tryd.prog.cellsOf 18 = 1 := by kernel_rfl
@[simp] theorem Tryd.bytes18 : Tryd.prog.bytesOf 18 = 8 := by kernel_rfl
@[simp] theorem Tryd.zc18 : zcells Tryd.prog 18 = some [.nilp] := by kernel_rfl
@[simp] theorem Tryd.zl18 : zlen Tryd.prog 18 = 1 := by kernel_rfl
@[simp] theorem Tryd.cells19 : Tryd.prog.cellsOf 19 = 1 := by kernel_rfl
@[simp] theorem Tryd.bytes19 : Tryd.prog.bytesOf 19 = 8 := by kernel_rfl
@[simp] theorem Tryd.zc19 : zcells Tryd.prog 19 = some [.nilp] := by kernel_rfl
@[simp] theorem Tryd.zl19 : zlen Tryd.prog 19 = 1 := by kernel_rfl
@[simp] theorem Tryd.cells20 : Tryd.prog.cellsOf 20 = 1 := by kernel_rfl
@[simp] theorem Tryd.bytes20 : Tryd.prog.bytesOf 20 = 16 := by kernel_rfl
@[simp] theorem Tryd.zc20 : zcells Tryd.prog 20 = some [.nilif] := by kernel_rfl
@[simp] theorem Tryd.zl20 : zlen Tryd.prog 20 = 1 := by kernel_rfl
@[simp] theorem Tryd.cells21 : Tryd.prog.cellsOf 21 = 1 := by kernel_rfl
@[simp] theorem Tryd.bytes21 : Tryd.prog.bytesOf 21 = 4 := by kernel_rfl
@[simp] theorem Tryd.zc21 : zcells Tryd.prog 21 = some [.int .i32 0] := by kernel_rfl
@[simp] theorem Tryd.zl21 : zlen Tryd.prog 21 = 1 := by kernel_rfl
@[simp] theorem Tryd.cells22 : Tryd.prog.cellsOf 22 = 1 := by kernel_rfl
@[simp] theorem Tryd.bytes22 : Tryd.prog.bytesOf 22 = 8 := by kernel_rfl
@[simp] theorem Tryd.zc22 : zcells Tryd.prog 22 = some [.int .u64 0] := by kernel_rfl
@[simp] theorem Tryd.zl22 : zlen Tryd.prog 22 = 1 := by kernel_rfl
@[simp] theorem Tryd.cells23 : Tryd.prog.cellsOf 23 = 2 := by kernel_rfl
@[simp] theorem Tryd.bytes23 : Tryd.prog.bytesOf 23 = 16 := by kernel_rfl
@[simp] theorem Tryd.zc23 : zcells Tryd.prog 23 = some [.int .u64 0, .int .u64 0] := by kernel_rfl
@[simp] theorem Tryd.zl23 : zlen Tryd.prog 23 = 2 := by kernel_rfl
@[simp] theorem Tryd.eqa23 (x0 y0 : Int) (x1 y1 : Int) : EqA Tryd.prog 23 [.int .u64 x0, .int .u64 x1] [.int .u64 y0, .int .u64 y1] :=
  EqA_of (l := [.int .u64, .int .u64]) 6 (by kernel_rfl) (by kernel_rfl) (by kernel_rfl) (by kernel_rfl) (by omega) (by simp [LSS, SSh]) (by simp [LSS, SSh])
@[simp] theorem Tryd.cells24 : Tryd.prog.cellsOf 24 = 2 := by kernel_rfl
@[simp] theorem Tryd.bytes24 : Tryd.prog.bytesOf 24 = 16 := by kernel_rfl
@[simp] theorem Tryd.zc24 : zcells Tryd.prog 24 = some [.int .u64 0, .int .u64 0] := by kernel_rfl
@[simp] theorem Tryd.zl24 : zlen Tryd.prog 24 = 2 := by kernel_rfl
@[simp] theorem Tryd.eqa24 (x0 y0 : Int) (x1 y1 : Int) : EqA Tryd.prog 24 [.int .u64 x0, .int .u64 x1] [.int .u64 y0, .int .u64 y1] :=
  EqA_of (l := [.int .u64, .int .u64]) 6 (by kernel_rfl) (by kernel_rfl) (by kernel_rfl) (by kernel_rfl) (by omega) (by simp [LSS, SSh]) (by simp [LSS, SSh])
@[simp] theorem Tryd.cells25 : Tryd.prog.cellsOf 25 = 4 := by kernel_rfl
@[simp] theorem Tryd.bytes25 : Tryd.prog.bytesOf 25 = 32 := by kernel_rfl
@[simp] theorem Tryd.zc25 : zcells Tryd.prog 25 = some [.int .u8 0, .int .u64 0, .int .u64 0, .int .i64 0] := by kernel_rfl
@[simp] theorem Tryd.zl25 : zlen Tryd.prog 25 = 4 := by kernel_rfl
@[simp] theorem Tryd.eqa25 (x0 y0 : Int) (x1 y1 : Int) (x2 y2 : Int) (x3 y3 : Int) : EqA Tryd.prog 25 [.int .u8 x0, .int .u64 x1, .int .u64 x2, .int .i64 x3] [.int .u8 y0, .int .u64 y1, .int .u64 y2, .int .i64 y3] :=
  EqA_of (l := [.int .u8, .int .u64, .int .u64, .int .i64]) 6 (by kernel_rfl) (by kernel_rfl) (by kernel_rfl) (by kernel_rfl) (by omega) (by simp [LSS, SSh]) (by simp [LSS, SSh])
@[simp] theorem Tryd.cells26 : Tryd.prog.cellsOf 26 = 4 := by kernel_rfl
@[simp] theorem Tryd.bytes26 : Tryd.prog.bytesOf 26 = 32 := by kernel_rfl
@[simp] theorem Tryd.zc26 : zcells Tryd.prog 26 = some [.int .u8 0, .int .u64 0, .int .u64 0, .int .i64 0] := by kernel_rfl
@[simp] theorem Tryd.zl26 : zlen Tryd.prog 26 = 4 := by kernel_rfl
@[simp] theorem Tryd.eqa26 (x0 y0 : Int) (x1 y1 : Int) (x2 y2 : Int) (x3 y3 : Int) : EqA Tryd.prog 26 [.int .u8 x0, .int .u64 x1, .int .u64 x2, .int .i64 x3] [.int .u8 y0, .int .u64 y1, .int .u64 y2, .int .i64 y3] :=
  EqA_of (l := [.int .u8, .int .u64, .int .u64, .int .i64]) 6 (by kernel_rfl) (by kernel_rfl) (by kernel_rfl) (by kernel_rfl) (by omega) (by simp [LSS, SSh]) (by simp [LSS, SSh])
@[simp] theorem Tryd.cells27 : Tryd.prog.cellsOf 27 = 1 := by kernel_rfl
@[simp] theorem Tryd.bytes27 : Tryd.prog.bytesOf 27 = 8 := by kernel_rfl
@[simp] theorem Tryd.zc27 : zcells Tryd.prog 27 = some [.int .i64 0] := by kernel_rfl
@[simp] theorem Tryd.zl27 : zlen Tryd.prog 27 = 1 := by kernel_rfl
@[simp] theorem Tryd.cells28 : Tryd.prog.cellsOf 28 = 1 := by kernel_rfl
@[simp] theorem Tryd.bytes28 : Tryd.prog.bytesOf 28 = 8 := by kernel_rfl
@[simp] theorem Tryd.zc28 : zcells Tryd.prog 28 = some [.nilfn] := by kernel_rfl
@[simp] theorem Tryd.zl28 : zlen Tryd.prog 28 = 1 := by kernel_rfl
@[simp] theorem Tryd.cells29 : Tryd.prog.cellsOf 29 = 1 := by kernel_rfl
@[simp] theorem Tryd.bytes29 : Tryd.prog.bytesOf 29 = 8 := by kernel_rfl
@[simp] theorem Tryd.zc29 : zcells Tryd.prog 29 = some [.nilfn] := by kernel_rfl
@[simp] theorem Tryd.zl29 : zlen Tryd.prog 29 = 1 := by kernel_rfl
@[simp] theorem Tryd.cells30 : Tryd.prog.cellsOf 30 = 1 := by kernel_rfl
@[simp] theorem Tryd.bytes30 : Tryd.prog.bytesOf 30 = 8 := by kernel_rfl
@[simp] theorem Tryd.zc30 : zcells Tryd.prog 30 = some [.nilfn] := by kernel_rfl
@[simp] theorem Tryd.zl30 : zlen Tryd.prog 30 = 1 := by kernel_rfl
@[simp] theorem Tryd.cells31 : Tryd.prog.cellsOf 31 = 1 := by kernel_rfl
@[simp] theorem Tryd.bytes31 : Tryd.prog.bytesOf 31 = 8 := by kernel_rfl
@[simp] theorem Tryd.zc31 : zcells Tryd.prog 31 = some [.nilfn] := by kernel_rfl
@[simp] theorem Tryd.zl31 : zlen Tryd.prog 31 = 1 := by kernel_rfl
@[simp] theorem Tryd.cells32 : Tryd.prog.cellsOf 32 = 1 := by kernel_rfl
@[simp] theorem Tryd.bytes32 : Tryd.prog.bytesOf 32 = 4 := by kernel_rfl
@[simp] theorem Tryd.zc32 : zcells Tryd.prog 32 = some [.int .u32 0] := by kernel_rfl
@[simp] theorem Tryd.zl32 : zlen Tryd.prog 32 = 1 := by kernel_rfl
@[simp] theorem Tryd.cells34 : Tryd.prog.cellsOf 34 = 1 := by kernel_rfl
@[simp] theorem Tryd.bytes34 : Tryd.prog.bytesOf 34 = 8 := by kernel_rfl
@[simp] theorem Tryd.zc34 : zcells Tryd.prog 34 = some [.nilfn] := by kernel_rfl
@[simp] theorem Tryd.zl34 : zlen Tryd.prog 34 = 1 := by kernel_rfl
@[simp] theorem Tryd.cells36 : Tryd.prog.cellsOf 36 = 1 := by kernel_rfl
@[simp] theorem Tryd.bytes36 : Tryd.prog.bytesOf 36 = 8 := by kernel_rfl
@[simp] theorem Tryd.zc36 : zcells Tryd.prog 36 = some [.nilfn] := by kernel_rfl
@[simp] theorem Tryd.zl36 : zlen Tryd.prog 36 = 1 := by kernel_rfl
@[simp] theorem Tryd.cells38 : Tryd.prog.cellsOf 38 = 1 := by kernel_rfl
@[simp] theorem Tryd.bytes38 : Tryd.prog.bytesOf 38 = 8 := by kernel_rfl
@[simp] theorem Tryd.zc38 : zcells Tryd.prog 38 = some [.nilfn] := by kernel_rfl
@[simp] theorem Tryd.zl38 : zlen Tryd.prog 38 = 1 := by kernel_rfl
@[simp] theorem Tryd.cells40 : Tryd.prog.cellsOf 40 = 1 := by kernel_rfl
@[simp] theorem Tryd.bytes40 : Tryd.prog.bytesOf 40 = 8 := by kernel_rfl
@[simp] theorem Tryd.zc40 : zcells Tryd.prog 40 = some [.nilfn] := by kernel_rfl
@[simp] theorem Tryd.zl40 : zlen Tryd.prog 40 = 1 := by kernel_rfl
@[simp] theorem Tryd.cells41 : Tryd.prog.cellsOf 41 = 1 := by kernel_rfl
@[simp] theorem Tryd.bytes41 : Tryd.prog.bytesOf 41 = 8 := by kernel_rfl
@[simp] theorem Tryd.zc41 : zcells Tryd.prog 41 = some [.nilfn] := by kernel_rfl
@[simp] theorem Tryd.zl41 : zlen Tryd.prog 41 = 1 := by kernel_rfl
@[simp] theorem Tryd.cells42 : Tryd.prog.cellsOf 42 = 1 := by kernel_rfl
@[simp] theorem Tryd.bytes42 : Tryd.prog.bytesOf 42 = 8 := by kernel_rfl
@[simp] theorem Tryd.zc42 : zcells Tryd.prog 42 = some [.nilfn] := by kernel_rfl
@[simp] theorem Tryd.zl42 : zlen Tryd.prog 42 = 1 := by kernel_rfl
@[simp] theorem Tryd.cells44 : Tryd.prog.cellsOf 44 = 1 := by kernel_rfl
@[simp] theorem Tryd.bytes44 : Tryd.prog.bytesOf 44 = 8 := by kernel_rfl
@[simp] theorem Tryd.zc44 : zcells Tryd.prog 44 = some [.nilfn] := by kernel_rfl
@[simp] theorem Tryd.zl44 : zlen Tryd.prog 44 = 1 := by kernel_rfl
@[simp] theorem Tryd.cells46 : Tryd.prog.cellsOf 46 = 1 := by kernel_rfl
@[simp] theorem Tryd.bytes46 : Tryd.prog.bytesOf 46 = 8 := by kernel_rfl
@[simp] theorem Tryd.zc46 : zcells Tryd.prog 46 = some [.nilfn] := by kernel_rfl
@[simp] theorem Tryd.zl46 : zlen Tryd.prog 46 = 1 := by kernel_rfl
@[simp] theorem Tryd.cells48 : Tryd.prog.cellsOf 48 = 1 := by kernel_rfl
@[simp] theorem Tryd.bytes48 : Tryd.prog.bytesOf 48 = 8 := by kernel_rfl
@[simp] theorem Tryd.zc48 : zcells Tryd.prog 48 = some [.nilfn] := by kernel_rfl
@[simp] theorem Tryd.zl48 : zlen Tryd.prog 48 = 1 := by kernel_rfl
@[simp] theorem Tryd.cells50 : Tryd.prog.cellsOf 50 = 1 := by kernel_rfl
@[simp] theorem Tryd.bytes50 : Tryd.prog.bytesOf 50 = 8 := by kernel_rfl
@[simp] theorem Tryd.zc50 : zcells Tryd.prog 50 = some [.nilfn] := by kernel_rfl
@[simp] theorem Tryd.zl50 : zlen Tryd.prog 50 = 1 := by kernel_rfl
@[simp] theorem Tryd.cells51 : Tryd.prog.cellsOf 51 = 1 := by kernel_rfl
@[simp] theorem Tryd.bytes51 : Tryd.prog.bytesOf 51 = 8 := by kernel_rfl
@[simp] theorem Tryd.zc51 : zcells Tryd.prog 51 = some [.nilfn] := by kernel_rfl
@[simp] theorem Tryd.zl51 : zlen Tryd.prog 51 = 1 := by kernel_rfl
@[simp] theorem Tryd.cells52 : Tryd.prog.cellsOf 52 = 1 := by kernel_rfl
@[simp] theorem Tryd.bytes52 : Tryd.prog.bytesOf 52 = 8 := by kernel_rfl
@[simp] theorem Tryd.zc52 : zcells Tryd.prog 52 = some [.nilfn] := by kernel_rfl
@[simp] theorem Tryd.zl52 : zlen Tryd.prog 52 = 1 := by kernel_rfl
@[simp] theorem Tryd.cells53 : Tryd.prog.cellsOf 53 = 1 := by kernel_rfl
@[simp] theorem Tryd.bytes53 : Tryd.prog.bytesOf 53 = 8 := by kernel_rfl
@[simp] theorem Tryd.zc53 : zcells Tryd.prog 53 = some [.nilfn] := by kernel_rfl
@[simp] theorem Tryd.zl53 : zlen Tryd.prog 53 = 1 := by kernel_rfl
@[simp] theorem Tryd.cells55 : Tryd.prog.cellsOf 55 = 1 := by kernel_rfl
@[simp] theorem Tryd.bytes55 : Tryd.prog.bytesOf 55 = 8 := by kernel_rfl
@[simp] theorem Tryd.zc55 : zcells Tryd.prog 55 = some [.nilfn] := by kernel_rfl
@[simp] theorem Tryd.zl55 : zlen Tryd.prog 55 = 1 := by kernel_rfl
@[simp] theorem Tryd.cells56 : Tryd.prog.cellsOf 56 = 1 := by kernel_rfl
@[simp] theorem Tryd.bytes56 : Tryd.prog.bytesOf 56 = 8 := by kernel_rfl
@[simp] theorem Tryd.zc56 : zcells Tryd.prog 56 = some [.nilfn] := by kernel_rfl
@[simp] theorem Tryd.zl56 : zlen Tryd.prog 56 = 1 := by kernel_rfl
@[simp] theorem Tryd.cells57 : Tryd.prog.cellsOf 57 = 1 := by kernel_rfl
@[simp] theorem Tryd.bytes57 : Tryd.prog.bytesOf 57 = 8 := by kernel_rfl
@[simp] theorem Tryd.zc57 : zcells Tryd.prog 57 = some [.nilfn] := by kernel_rfl
@[simp] theorem Tryd.zl57 : zlen Tryd.prog 57 = 1 := by kernel_rfl
@[simp] theorem Tryd.cells58 : Tryd.prog.cellsOf 58 = 1 := by kernel_rfl
@[simp] theorem Tryd.bytes58 : Tryd.prog.bytesOf 58 = 8 := by kernel_rfl
@[simp] theorem Tryd.zc58 : zcells Tryd.prog 58 = some [.nilfn] := by kernel_rfl
@[simp] theorem Tryd.zl58 : zlen Tryd.prog 58 = 1 := by kernel_rfl
@[simp] theorem Tryd.cells59 : Tryd.prog.cellsOf 59 = 1 := by kernel_rfl
@[simp] theorem Tryd.bytes59 : Tryd.prog.bytesOf 59 = 8 := by kernel_rfl
@[simp] theorem Tryd.zc59 : zcells Tryd.prog 59 = some [.nilfn] := by kernel_rfl
@[simp] theorem Tryd.zl59 : zlen Tryd.prog 59 = 1 := by kernel_rfl
@[simp] theorem Tryd.cells60 : Tryd.prog.cellsOf 60 = 2 := by kernel_rfl
@[simp] theorem Tryd.bytes60 : Tryd.prog.bytesOf 60 = 16 := by kernel_rfl
@[simp] theorem Tryd.zc60 : zcells Tryd.prog 60 = some [.int .u64 0, .int .u64 0] := by kernel_rfl
@[simp] theorem Tryd.zl60 : zlen Tryd.prog 60 = 2 := by kernel_rfl
@[simp] theorem Tryd.eqa60 (x0 y0 : Int) (x1 y1 : Int) : EqA Tryd.prog 60 [.int .u64 x0, .int .u64 x1] [.int .u64 y0, .int .u64 y1] :=
  EqA_of (l := [.int .u64, .int .u64]) 6 (by kernel_rfl) (by kernel_rfl) (by kernel_rfl) (by kernel_rfl) (by omega) (by simp [LSS, SSh]) (by simp [LSS, SSh])
@[simp] theorem Tryd.cells61 : Tryd.prog.cellsOf 61 = 1 := by kernel_rfl
@[simp] theorem Tryd.bytes61 : Tryd.prog.bytesOf 61 = 24 := by kernel_rfl
@[simp] theorem Tryd.zc61 : zcells Tryd.prog 61 = some [.nils] := by kernel_rfl
@[simp] theorem Tryd.zl61 : zlen Tryd.prog 61 = 1 := by kernel_rfl
@[simp] theorem Tryd.cells62 : Tryd.prog.cellsOf 62 = 1 := by kernel_rfl
@[simp] theorem Tryd.bytes62 : Tryd.prog.bytesOf 62 = 24 := by kernel_rfl
@[simp] theorem Tryd.zc62 : zcells Tryd.prog 62 = some [.nils] := by kernel_rfl
@[simp] theorem Tryd.zl62 : zlen Tryd.prog 62 = 1 := by kernel_rfl
@[simp] theorem Tryd.cells63 : Tryd.prog.cellsOf 63 = 1 := by kernel_rfl
@[simp] theorem Tryd.bytes63 : Tryd.prog.bytesOf 63 = 8 := by kernel_rfl
@[simp] theorem Tryd.zc63 : zcells Tryd.prog 63 = some [.nilfn] := by kernel_rfl
@[simp] theorem Tryd.zl63 : zlen Tryd.prog 63 = 1 := by kernel_rfl
@[simp] theorem Tryd.cells64 : Tryd.prog.cellsOf 64 = 4 := by kernel_rfl
@[simp] theorem Tryd.bytes64 : Tryd.prog.bytesOf 64 = 32 := by kernel_rfl
@[simp] theorem Tryd.zc64 : zcells Tryd.prog 64 = some [.int .u64 0, .int .u64 0, .int .u64 0, .int .u64 0] := by kernel_rfl
@[simp] theorem Tryd.zl64 : zlen Tryd.prog 64 = 4 := by kernel_rfl
@[simp] theorem Tryd.eqa64 (x0 y0 : Int) (x1 y1 : Int) (x2 y2 : Int) (x3 y3 : Int) : EqA Tryd.prog 64 [.int .u64 x0, .int .u64 x1, .int .u64 x2, .int .u64 x3] [.int .u64 y0, .int .u64 y1, .int .u64 y2, .int .u64 y3] :=
  EqA_of (l := [.int .u64, .int .u64, .int .u64, .int .u64]) 6 (by kernel_rfl) (by kernel_rfl) (by kernel_rfl) (by kernel_rfl) (by omega) (by simp [LSS, SSh]) (by simp [LSS, SSh])
@[simp] theorem Tryd.cells65 : Tryd.prog.cellsOf 65 = 4 := by kernel_rfl
@[simp] theorem Tryd.bytes65 : Tryd.prog.bytesOf 65 = 32 := by kernel_rfl
@[simp] theorem Tryd.zc65 : zcells Tryd.prog 65 = some [.int .u64 0, .int .u64 0, .int .u64 0, .int .u64 0] := by kernel_rfl
@[simp] theorem Tryd.zl65 : zlen Tryd.prog 65 = 4 := by kernel_rfl
@[simp] theorem Tryd.eqa65 (x0 y0 : Int) (x1 y1 : Int) (x2 y2 : Int) (x3 y3 : Int) : EqA Tryd.prog 65 [.int .u64 x0, .int .u64 x1, .int .u64 x2, .int .u64 x3] [.int .u64 y0, .int .u64 y1, .int .u64 y2, .int .u64 y3] :=
  EqA_of (l := [.int .u64, .int .u64, .int .u64, .int .u64]) 6 (by kernel_rfl) (by kernel_rfl) (by kernel_rfl) (by kernel_rfl) (by omega) (by simp [LSS, SSh]) (by simp [LSS, SSh])
@[simp] theorem Tryd.cells66 : Tryd.prog.cellsOf 66 = 1 := by kernel_rfl
@[simp] theorem Tryd.bytes66 : Tryd.prog.bytesOf 66 = 24 := by kernel_rfl
@[simp] theorem Tryd.zc66 : zcells Tryd.prog 66 = some [.nils] := by kernel_rfl
@[simp] theorem Tryd.zl66 : zlen Tryd.prog 66 = 1 := by kernel_rfl
@[simp] theorem Tryd.cells68 : Tryd.prog.cellsOf 68 = 1 := by kernel_rfl
@[simp] theorem Tryd.bytes68 : Tryd.prog.bytesOf 68 = 8 := by kernel_rfl
@[simp] theorem Tryd.zc68 : zcells Tryd.prog 68 = some [.nilfn] := by kernel_rfl
@[simp] theorem Tryd.zl68 : zlen Tryd.prog 68 = 1 := by kernel_rfl
@[simp] theorem Tryd.cells69 : Tryd.prog.cellsOf 69 = 1 := by kernel_rfl
@[simp] theorem Tryd.bytes69 : Tryd.prog.bytesOf 69 = 8 := by kernel_rfl
@[simp] theorem Tryd.zc69 : zcells Tryd.prog 69 = some [.nilfn] := by kernel_rfl
@[simp] theorem Tryd.zl69 : zlen Tryd.prog 69 = 1 := by kernel_rfl
@[simp] theorem Tryd.cells70 : Tryd.prog.cellsOf 70 = 1 := by kernel_rfl
@[simp] theorem Tryd.bytes70 : Tryd.prog.bytesOf 70 = 8 := by kernel_rfl
@[simp] theorem Tryd.zc70 : zcells Tryd.prog 70 = some [.nilfn] := by kernel_rfl
@[simp] theorem Tryd.zl70 : zlen Tryd.prog 70 = 1 := by kernel_rfl
@[simp] theorem Tryd.cells71 : Tryd.prog.cellsOf 71 = 1 := by kernel_rfl
@[simp] theorem Tryd.bytes71 : Tryd.prog.bytesOf 71 = 8 := by kernel_rfl
@[simp] theorem Tryd.zc71 : zcells Tryd.prog 71 = some [.nilfn] := by kernel_rfl
@[simp] theorem Tryd.zl71 : zlen Tryd.prog 71 = 1 := by kernel_rfl
@[simp] theorem Tryd.cells73 : Tryd.prog.cellsOf 73 = 1 := by kernel_rfl
@[simp] theorem Tryd.bytes73 : Tryd.prog.bytesOf 73 = 8 := by kernel_rfl
@[simp] theorem Tryd.zc73 : zcells Tryd.prog 73 = some [.nilfn] := by kernel_rfl
@[simp] theorem Tryd.zl73 : zlen Tryd.prog 73 = 1 := by kernel_rfl
@[simp] theorem Tryd.cells75 : Tryd.prog.cellsOf 75 = 1 := by kernel_rfl
@[simp] theorem Tryd.bytes75 : Tryd.prog.bytesOf 75 = 8 := by kernel_rfl
@[simp] theorem Tryd.zc75 : zcells Tryd.prog 75 = some [.nilfn] := by kernel_rfl
@[simp] theorem Tryd.zl75 : zlen Tryd.prog 75 = 1 := by kernel_rfl
@[simp] theorem Tryd.cells76 : Tryd.prog.cellsOf 76 = 1 := by kernel_rfl
@[simp] theorem Tryd.bytes76 : Tryd.prog.bytesOf 76 = 8 := by kernel_rfl
@[simp] theorem Tryd.zc76 : zcells Tryd.prog 76 = some [.nilfn] := by kernel_rfl
@[simp] theorem Tryd.zl76 : zlen Tryd.prog 76 = 1 := by kernel_rfl
@[simp] theorem Tryd.cells77 : Tryd.prog.cellsOf 77 = 1 := by kernel_rfl
@[simp] theorem Tryd.bytes77 : Tryd.prog.bytesOf 77 = 8 := by kernel_rfl
@[simp] theorem Tryd.zc77 : zcells Tryd.prog 77 = some [.nilfn] := by kernel_rfl
@[simp] theorem Tryd.zl77 : zlen Tryd.prog 77 = 1 := by kernel_rfl
@[simp] theorem Tryd.cells78 : Tryd.prog.cellsOf 78 = 1 := by kernel_rfl
@[simp] theorem Tryd.bytes78 : Tryd.prog.bytesOf 78 = 8 := by kernel_rfl
@[simp] theorem Tryd.zc78 : zcells Tryd.prog 78 = some [.nilfn] := by kernel_rfl
@[simp] theorem Tryd.zl78 : zlen Tryd.prog 78 = 1 := by kernel_rfl
@[simp] theorem Tryd.cells79 : Tryd.prog.cellsOf 79 = 1 := by kernel_rfl
@[simp] theorem Tryd.bytes79 : Tryd.prog.bytesOf 79 = 8 := by kernel_rfl
@[simp] theorem Tryd.zc79 : zcells Tryd.prog 79 = some [.nilfn] := by kernel_rfl
@[simp] theorem Tryd.zl79 : zlen Tryd.prog 79 = 1 := by kernel_rfl
@[simp] theorem Tryd.cells81 : Tryd.prog.cellsOf 81 = 1 := by kernel_rfl
@[simp] theorem Tryd.bytes81 : Tryd.prog.bytesOf 81 = 8 := by kernel_rfl
@[simp] theorem Tryd.zc81 : zcells Tryd.prog 81 = some [.nilfn] := by kernel_rfl
@[simp] theorem Tryd.zl81 : zlen Tryd.prog 81 = 1 := by kernel_rfl
@[simp] theorem Tryd.cells82 : Tryd.prog.cellsOf 82 = 1 := by kernel_rfl
@[simp] theorem Tryd.bytes82 : Tryd.prog.bytesOf 82 = 8 := by kernel_rfl
@[simp] theorem Tryd.zc82 : zcells Tryd.prog 82 = some [.nilfn] := by kernel_rfl
@[simp] theorem Tryd.zl82 : zlen Tryd.prog 82 = 1 := by kernel_rfl
@[simp] theorem Tryd.cells83 : Tryd.prog.cellsOf 83 = 1 := by kernel_rfl
@[simp] theorem Tryd.bytes83 : Tryd.prog.bytesOf 83 = 8 := by kernel_rfl
@[simp] theorem Tryd.zc83 : zcells Tryd.prog 83 = some [.nilfn] := by kernel_rfl
@[simp] theorem Tryd.zl83 : zlen Tryd.prog 83 = 1 := by kernel_rfl
@[simp] theorem Tryd.cells84 : Tryd.prog.cellsOf 84 = 1 := by kernel_rfl
@[simp] theorem Tryd.bytes84 : Tryd.prog.bytesOf 84 = 8 := by kernel_rfl
@[simp] theorem Tryd.zc84 : zcells Tryd.prog 84 = some [.nilfn] := by kernel_rfl
@[simp] theorem Tryd.zl84 : zlen Tryd.prog 84 = 1 := by kernel_rfl
@[simp] theorem Tryd.cells85 : Tryd.prog.cellsOf 85 = 1 := by kernel_rfl
@[simp] theorem Tryd.bytes85 : Tryd.prog.bytesOf 85 = 8 := by kernel_rfl
@[simp] theorem Tryd.zc85 : zcells Tryd.prog 85 = some [.nilfn] := by kernel_rfl
@[simp] theorem Tryd.zl85 : zlen Tryd.prog 85 = 1 := by kernel_rfl
@[simp] theorem Tryd.cells86 : Tryd.prog.cellsOf 86 = 1 := by kernel_rfl
@[simp] theorem Tryd.bytes86 : Tryd.prog.bytesOf 86 = 8 := by kernel_rfl
@[simp] theorem Tryd.zc86 : zcells Tryd.prog 86 = some [.nilfn] := by kernel_rfl
@[simp] theorem Tryd.zl86 : zlen Tryd.prog 86 = 1 := by kernel_rfl
@[simp] theorem Tryd.cells87 : Tryd.prog.cellsOf 87 = 1 := by kernel_rfl
@[simp] theorem Tryd.bytes87 : Tryd.prog.bytesOf 87 = 8 := by kernel_rfl
@[simp] theorem Tryd.zc87 : zcells Tryd.prog 87 = some [.nilfn] := by kernel_rfl
@[simp] theorem Tryd.zl87 : zlen Tryd.prog 87 = 1 := by kernel_rfl
@[simp] theorem Tryd.cells88 : Tryd.prog.cellsOf 88 = 1 := by kernel_rfl
@[simp] theorem Tryd.bytes88 : Tryd.prog.bytesOf 88 = 8 := by kernel_rfl
@[simp] theorem Tryd.zc88 : zcells Tryd.prog 88 = some [.nilfn] := by kernel_rfl
@[simp] theorem Tryd.zl88 : zlen Tryd.prog 88 = 1 := by kernel_rfl
@[simp] theorem Tryd.cells89 : Tryd.prog.cellsOf 89 = 1 := by kernel_rfl
@[simp] theorem Tryd.bytes89 : Tryd.prog.bytesOf 89 = 8 := by kernel_rfl
@[simp] theorem Tryd.zc89 : zcells Tryd.prog 89 = some [.nilfn] := by kernel_rfl
@[simp] theorem Tryd.zl89 : zlen Tryd.prog 89 = 1 := by kernel_rfl
@[simp] theorem Tryd.cells90 : Tryd.prog.cellsOf 90 = 1 := by kernel_rfl
@[simp] theorem Tryd.bytes90 : Tryd.prog.bytesOf 90 = 8 := by kernel_rfl
@[simp] theorem Tryd.zc90 : zcells Tryd.prog 90 = some [.nilfn] := by kernel_rfl
@[simp] theorem Tryd.zl90 : zlen Tryd.prog 90 = 1 := by kernel_rfl
@[simp] theorem Tryd.cells91 : Tryd.prog.cellsOf 91 = 1 := by kernel_rfl
@[simp] theorem Tryd.bytes91 : Tryd.prog.bytesOf 91 = 24 := by kernel_rfl
@[simp] theorem Tryd.zc91 : zcells Tryd.prog 91 = some [.nils] := by kernel_rfl
@[simp] theorem Tryd.zl91 : zlen Tryd.prog 91 = 1 := by kernel_rfl
@[simp] theorem Tryd.cells92 : Tryd.prog.cellsOf 92 = 1 := by kernel_rfl
@[simp] theorem Tryd.bytes92 : Tryd.prog.bytesOf 92 = 8 := by kernel_rfl
@[simp] theorem Tryd.zc92 : zcells Tryd.prog 92 = some [.nilfn] := by kernel_rfl
@[simp] theorem Tryd.zl92 : zlen Tryd.prog 92 = 1 := by kernel_rfl
@[simp] theorem Tryd.cells93 : Tryd.prog.cellsOf 93 = 1 := by kernel_rfl
@[simp] theorem Tryd.bytes93 : Tryd.prog.bytesOf 93 = 8 := by kernel_rfl
@[simp] theorem Tryd.zc93 : zcells Tryd.prog 93 = some [.nilfn] := by kernel_rfl
@[simp] theorem Tryd.zl93 : zlen Tryd.prog 93 = 1 := by kernel_rfl
@[simp] theorem Tryd.cells94 : Tryd.prog.cellsOf 94 = 1 := by kernel_rfl
@[simp] theorem Tryd.bytes94 : Tryd.prog.bytesOf 94 = 8 := by kernel_rfl
@[simp] theorem Tryd.zc94 : zcells Tryd.prog 94 = some [.nilfn] := by kernel_rfl
@[simp] theorem Tryd.zl94 : zlen Tryd.prog 94 = 1 := by kernel_rfl
@[simp] theorem Tryd.cells95 : Tryd.prog.cellsOf 95 = 1 := by kernel_rfl
@[simp] theorem Tryd.bytes95 : Tryd.prog.bytesOf 95 = 24 := by kernel_rfl
@[simp] theorem Tryd.zc95 : zcells Tryd.prog 95 = some [.nils] := by kernel_rfl
@[simp] theorem Tryd.zl95 : zlen Tryd.prog 95 = 1 := by kernel_rfl
@[simp] theorem Tryd.cells96 : Tryd.prog.cellsOf 96 = 1 := by kernel_rfl
@[simp] theorem Tryd.bytes96 : Tryd.prog.bytesOf 96 = 8 := by kernel_rfl
@[simp] theorem Tryd.zc96 : zcells Tryd.prog 96 = some [.nilfn] := by kernel_rfl
@[simp] theorem Tryd.zl96 : zlen Tryd.prog 96 = 1 := by kernel_rfl
@[simp] theorem Tryd.cells97 : Tryd.prog.cellsOf 97 = 1 := by kernel_rfl
@[simp] theorem Tryd.bytes97 : Tryd.prog.bytesOf 97 = 8 := by kernel_rfl
@[simp] theorem Tryd.zc97 : zcells Tryd.prog 97 = some [.nilfn] := by kernel_rfl
@[simp] theorem Tryd.zl97 : zlen Tryd.prog 97 = 1 := by kernel_rfl
@[simp] theorem Tryd.cells98 : Tryd.prog.cellsOf 98 = 1 := by kernel_rfl
@[simp] theorem Tryd.bytes98 : Tryd.prog.bytesOf 98 = 8 := by kernel_rfl
@[simp] theorem Tryd.zc98 : zcells Tryd.prog 98 = some [.nilfn] := by kernel_rfl
@[simp] theorem Tryd.zl98 : zlen Tryd.prog 98 = 1 := by kernel_rfl
@[simp] theorem Tryd.cells100 : Tryd.prog.cellsOf 100 = 1 := by kernel_rfl
@[simp] theorem Tryd.bytes100 : Tryd.prog.bytesOf 100 = 8 := by kernel_rfl
@[simp] theorem Tryd.zc100 : zcells Tryd.prog 100 = some [.nilfn] := by kernel_rfl
@[simp] theorem Tryd.zl100 : zlen Tryd.prog 100 = 1 := by kernel_rfl
@[simp] theorem Tryd.cells101 : Tryd.prog.cellsOf 101 = 1 := by kernel_rfl
@[simp] theorem Tryd.bytes101 : Tryd.prog.bytesOf 101 = 8 := by kernel_rfl
@[simp] theorem Tryd.zc101 : zcells Tryd.prog 101 = some [.nilfn] := by kernel_rfl
@[simp] theorem Tryd.zl101 : zlen Tryd.prog 101 = 1 := by kernel_rfl
@[simp] theorem Tryd.cells103 : Tryd.prog.cellsOf 103 = 1 := by kernel_rfl
@[simp] theorem Tryd.bytes103 : Tryd.prog.bytesOf 103 = 8 := by kernel_rfl
@[simp] theorem Tryd.zc103 : zcells Tryd.prog 103 = some [.nilfn] := by kernel_rfl
@[simp] theorem Tryd.zl103 : zlen Tryd.prog 103 = 1 := by kernel_rfl
@[simp] theorem Tryd.cells104 : Tryd.prog.cellsOf 104 = 1 := by kernel_rfl
@[simp] theorem Tryd.bytes104 : Tryd.prog.bytesOf 104 = 16 := by kernel_rfl
@[simp] theorem Tryd.zc104 : zcells Tryd.prog 104 = some [.nilif] := by kernel_rfl
@[simp] theorem Tryd.zl104 : zlen Tryd.prog 104 = 1 := by kernel_rfl
@[simp] theorem Tryd.cells105 : Tryd.prog.cellsOf 105 = 1 := by kernel_rfl
@[simp] theorem Tryd.bytes105 : Tryd.prog.bytesOf 105 = 16 := by kernel_rfl
@[simp] theorem Tryd.zc105 : zcells Tryd.prog 105 = some [.nilif] := by kernel_rfl
@[simp] theorem Tryd.zl105 : zlen Tryd.prog 105 = 1 := by kernel_rfl
@[simp] theorem Tryd.cells107 : Tryd.prog.cellsOf 107 = 1 := by kernel_rfl
@[simp] theorem Tryd.bytes107 : Tryd.prog.bytesOf 107 = 8 := by kernel_rfl
@[simp] theorem Tryd.zc107 : zcells Tryd.prog 107 = some [.nilfn] := by kernel_rfl
@[simp] theorem Tryd.zl107 : zlen Tryd.prog 107 = 1 := by kernel_rfl
@[simp] theorem Tryd.cells108 : Tryd.prog.cellsOf 108 = 1 := by kernel_rfl
@[simp] theorem Tryd.bytes108 : Tryd.prog.bytesOf 108 = 8 := by kernel_rfl
@[simp] theorem Tryd.zc108 : zcells Tryd.prog 108 = some [.nilfn] := by kernel_rfl
@[simp] theorem Tryd.zl108 : zlen Tryd.prog 108 = 1 := by kernel_rfl
@[simp] theorem Tryd.cells110 : Tryd.prog.cellsOf 110 = 1 := by kernel_rfl
@[simp] theorem Tryd.bytes110 : Tryd.prog.bytesOf 110 = 8 := by kernel_rfl
@[simp] theorem Tryd.zc110 : zcells Tryd.prog 110 = some [.nilfn] := by kernel_rfl
@[simp] theorem Tryd.zl110 : zlen Tryd.prog 110 = 1 := by kernel_rfl
@[simp] theorem Tryd.cells112 : Tryd.prog.cellsOf 112 = 1 := by kernel_rfl
@[simp] theorem Tryd.bytes112 : Tryd.prog.bytesOf 112 = 8 := by kernel_rfl
@[simp] theorem Tryd.zc112 : zcells Tryd.prog 112 = some [.nilfn] := by kernel_rfl
@[simp] theorem Tryd.zl112 : zlen Tryd.prog 112 = 1 := by kernel_rfl
@[simp] theorem Tryd.cells113 : Tryd.prog.cellsOf 113 = 1 := by kernel_rfl
@[simp] theorem Tryd.bytes113 : Tryd.prog.bytesOf 113 = 8 := by kernel_rfl
@[simp] theorem Tryd.zc113 : zcells Tryd.prog 113 = some [.nilfn] := by kernel_rfl
@[simp] theorem Tryd.zl113 : zlen Tryd.prog 113 = 1 := by kernel_rfl
@[simp] theorem Tryd.cells114 : Tryd.prog.cellsOf 114 = 1 := by kernel_rfl
@[simp] theorem Tryd.bytes114 : Tryd.prog.bytesOf 114 = 8 := by kernel_rfl
@[simp] theorem Tryd.zc114 : zcells Tryd.prog 114 = some [.nilfn] := by kernel_rfl
@[simp] theorem Tryd.zl114 : zlen Tryd.prog 114 = 1 := by kernel_rfl
@[simp] theorem Tryd.cells115 : Tryd.prog.cellsOf 115 = 1 := by kernel_rfl
@[simp] theorem Tryd.bytes115 : Tryd.prog.bytesOf 115 = 8 := by kernel_rfl
@[simp] theorem Tryd.zc115 : zcells Tryd.prog 115 = some [.nilfn] := by kernel_rfl
@[simp] theorem Tryd.zl115 : zlen Tryd.prog 115 = 1 := by kernel_rfl
@[simp] theorem Tryd.cells116 : Tryd.prog.cellsOf 116 = 1 := by kernel_rfl
@[simp] theorem Tryd.bytes116 : Tryd.prog.bytesOf 116 = 8 := by kernel_rfl
@[simp] theorem Tryd.zc116 : zcells Tryd.prog 116 = some [.nilfn] := by kernel_rfl
@[simp] theorem Tryd.zl116 : zlen Tryd.prog 116 = 1 := by kernel_rfl
@[simp] theorem Tryd.cells117 : Tryd.prog.cellsOf 117 = 1 := by kernel_rfl
@[simp] theorem Tryd.bytes117 : Tryd.prog.bytesOf 117 = 1 := by kernel_rfl
@[simp] theorem Tryd.zc117 : zcells Tryd.prog 117 = some [.int .u8 0] := by kernel_rfl
@[simp] theorem Tryd.zl117 : zlen Tryd.prog 117 = 1 := by kernel_rfl
@[simp] theorem Tryd.cells118 : Tryd.prog.cellsOf 118 = 5 := by kernel_rfl
@[simp] theorem Tryd.bytes118 : Tryd.prog.bytesOf 118 = 40 := by kernel_rfl
@[simp] theorem Tryd.zc118 : zcells Tryd.prog 118 = some [.int .u8 0, .int .u64 0, .int .u64 0, .int .u64 0, .int .u64 0] := by kernel_rfl
@[simp] theorem Tryd.zl118 : zlen Tryd.prog 118 = 5 := by kernel_rfl
@[simp] theorem Tryd.eqa118 (x0 y0 : Int) (x1 y1 : Int) (x2 y2 : Int) (x3 y3 : Int) (x4 y4 : Int) : EqA Tryd.prog 118 [.int .u8 x0, .int .u64 x1, .int .u64 x2, .int .u64 x3, .int .u64 x4] [.int .u8 y0, .int .u64 y1, .int .u64 y2, .int .u64 y3, .int .u64 y4] :=
  EqA_of (l := [.int .u8, .int .u64, .int .u64, .int .u64, .int .u64]) 6 (by kernel_rfl) (by kernel_rfl) (by kernel_rfl) (by kernel_rfl) (by omega) (by simp [LSS, SSh]) (by simp [LSS, SSh])
@[simp] theorem Tryd.cells119 : Tryd.prog.cellsOf 119 = 5 := by kernel_rfl
@[simp] theorem Tryd.bytes119 : Tryd.prog.bytesOf 119 = 40 := by kernel_rfl
@[simp] theorem Tryd.zc119 : zcells Tryd.prog 119 = some [.int .u8 0, .int .u64 0, .int .u64 0, .int .u64 0, .int .u64 0] := by kernel_rfl
@[simp] theorem Tryd.zl119 : zlen Tryd.prog 119 = 5 := by kernel_rfl
@[simp] theorem Tryd.eqa119 (x0 y0 : Int) (x1 y1 : Int) (x2 y2 : Int) (x3 y3 : Int) (x4 y4 : Int) : EqA Tryd.prog 119 [.int .u8 x0, .int .u64 x1, .int .u64 x2, .int .u64 x3, .int .u64 x4] [.int .u8 y0, .int .u64 y1, .int .u64 y2, .int .u64 y3, .int .u64 y4] :=
  EqA_of (l := [.int .u8, .int .u64, .int .u64, .int .u64, .int .u64]) 6 (by kernel_rfl) (by kernel_rfl) (by kernel_rfl) (by kernel_rfl) (by omega) (by simp [LSS, SSh]) (by simp [LSS, SSh])
@[simp] theorem Tryd.cells120 : Tryd.prog.cellsOf 120 = 1 := by kernel_rfl
@[simp] theorem Tryd.bytes120 : Tryd.prog.bytesOf 120 = 8 := by kernel_rfl
@[simp] theorem Tryd.zc120 : zcells Tryd.prog 120 = some [.nilfn] := by kernel_rfl
@[simp] theorem Tryd.zl120 : zlen Tryd.prog 120 = 1 := by kernel_rfl
@[simp] theorem Tryd.cells121 : Tryd.prog.cellsOf 121 = 1 := by kernel_rfl
@[simp] theorem Tryd.bytes121 : Tryd.prog.bytesOf 121 = 8 := by kernel_rfl
@[simp] theorem Tryd.zc121 : zcells Tryd.prog 121 = some [.nilfn] := by kernel_rfl
@[simp] theorem Tryd.zl121 : zlen Tryd.prog 121 = 1 := by kernel_rfl
@[simp] theorem Tryd.cells123 : Tryd.prog.cellsOf 123 = 1 := by kernel_rfl
@[simp] theorem Tryd.bytes123 : Tryd.prog.bytesOf 123 = 8 := by kernel_rfl
@[simp] theorem Tryd.zc123 : zcells Tryd.prog 123 = some [.nilfn] := by kernel_rfl
@[simp] theorem Tryd.zl123 : zlen Tryd.prog 123 = 1 := by kernel_rfl
@[simp] theorem Tryd.cells124 : Tryd.prog.cellsOf 124 = 1 := by kernel_rfl
@[simp] theorem Tryd.bytes124 : Tryd.prog.bytesOf 124 = 8 := by kernel_rfl
@[simp] theorem Tryd.zc124 : zcells Tryd.prog 124 = some [.nilfn] := by kernel_rfl
@[simp] theorem Tryd.zl124 : zlen Tryd.prog 124 = 1 := by kernel_rfl
@[simp] theorem Tryd.cells125 : Tryd.prog.cellsOf 125 = 8 := by kernel_rfl
@[simp] theorem Tryd.bytes125 : Tryd.prog.bytesOf 125 = 64 := by kernel_rfl
@[simp] theorem Tryd.zc125 : zcells Tryd.prog 125 = some [.int .u64 0, .int .u64 0, .int .u64 0, .int .u64 0, .int .u64 0, .int .u64 0, .int .u64 0, .int .u64 0] := by kernel_rfl
@[simp] theorem Tryd.zl125 : zlen Tryd.prog 125 = 8 := by kernel_rfl
@[simp] theorem Tryd.eqa125 (x0 y0 : Int) (x1 y1 : Int) (x2 y2 : Int) (x3 y3 : Int) (x4 y4 : Int) (x5 y5 : Int) (x6 y6 : Int) (x7 y7 : Int) : EqA Tryd.prog 125 [.int .u64 x0, .int .u64 x1, .int .u64 x2, .int .u64 x3, .int .u64 x4, .int .u64 x5, .int .u64 x6, .int .u64 x7] [.int .u64 y0, .int .u64 y1, .int .u64 y2, .int .u64 y3, .int .u64 y4, .int .u64 y5, .int .u64 y6, .int .u64 y7] :=
  EqA_of (l := [.int .u64, .int .u64, .int .u64, .int .u64, .int .u64, .int .u64, .int .u64, .int .u64]) 6 (by kernel_rfl) (by kernel_rfl) (by kernel_rfl) (by kernel_rfl) (by omega) (by simp [LSS, SSh]) (by simp [LSS, SSh])
@[simp] theorem Tryd.cells126 : Tryd.prog.cellsOf 126 = 1 := by kernel_rfl
@[simp] theorem Tryd.bytes126 : Tryd.prog.bytesOf 126 = 8 := by kernel_rfl
@[simp] theorem Tryd.zc126 : zcells Tryd.prog 126 = some [.nilfn] := by kernel_rfl
@[simp] theorem Tryd.zl126 : zlen Tryd.prog 126 = 1 := by kernel_rfl
@[simp] theorem Tryd.cells127 : Tryd.prog.cellsOf 127 = 1 := by kernel_rfl
@[simp] theorem Tryd.bytes127 : Tryd.prog.bytesOf 127 = 8 := by kernel_rfl
@[simp] theorem Tryd.zc127 : zcells Tryd.prog 127 = some [.nilfn] := by kernel_rfl
@[simp] theorem Tryd.zl127 : zlen Tryd.prog 127 = 1 := by kernel_rfl
@[simp] theorem Tryd.cells128 : Tryd.prog.cellsOf 128 = 1 := by kernel_rfl
@[simp] theorem Tryd.bytes128 : Tryd.prog.bytesOf 128 = 8 := by kernel_rfl
@[simp] theorem Tryd.zc128 : zcells Tryd.prog 128 = some [.nilp] := by kernel_rfl
@[simp] theorem Tryd.zl128 : zlen Tryd.prog 128 = 1 := by kernel_rfl
@[simp] theorem Tryd.cells129 : Tryd.prog.cellsOf 129 = 1 := by kernel_rfl
@[simp] theorem Tryd.bytes129 : Tryd.prog.bytesOf 129 = 24 := by kernel_rfl
@[simp] theorem Tryd.zc129 : zcells Tryd.prog 129 = some [.nils] := by kernel_rfl
@[simp] theorem Tryd.zl129 : zlen Tryd.prog 129 = 1 := by kernel_rfl
@[simp] theorem Tryd.cells130 : Tryd.prog.cellsOf 130 = 2 := by kernel_rfl
@[simp] theorem Tryd.bytes130 : Tryd.prog.bytesOf 130 = 32 := by kernel_rfl
@[simp] theorem Tryd.zc130 : zcells Tryd.prog 130 = some [.nilp, .nils] := by kernel_rfl
@[simp] theorem Tryd.zl130 : zlen Tryd.prog 130 = 2 := by kernel_rfl
@[simp] theorem Tryd.cells131 : Tryd.prog.cellsOf 131 = 2 := by kernel_rfl
@[simp] theorem Tryd.bytes131 : Tryd.prog.bytesOf 131 = 32 := by kernel_rfl
@[simp] theorem Tryd.zc131 : zcells Tryd.prog 131 = some [.nilp, .nils] := by kernel_rfl
@[simp] theorem Tryd.zl131 : zlen Tryd.prog 131 = 2 := by kernel_rfl
@[simp] theorem Tryd.cells132 : Tryd.prog.cellsOf 132 = 1 := by kernel_rfl
@[simp] theorem Tryd.bytes132 : Tryd.prog.bytesOf 132 = 8 := by kernel_rfl
@[simp] theorem Tryd.zc132 : zcells Tryd.prog 132 = some [.nilfn] := by kernel_rfl
@[simp] theorem Tryd.zl132 : zlen Tryd.prog 132 = 1 := by kernel_rfl
@[simp] theorem Tryd.cells134 : Tryd.prog.cellsOf 134 = 1 := by kernel_rfl
@[simp] theorem Tryd.bytes134 : Tryd.prog.bytesOf 134 = 8 := by kernel_rfl
@[simp] theorem Tryd.zc134 : zcells Tryd.prog 134 = some [.nilfn] := by kernel_rfl
@[simp] theorem Tryd.zl134 : zlen Tryd.prog 134 = 1 := by kernel_rfl
@[simp] theorem Tryd.cells135 : Tryd.prog.cellsOf 135 = 1 := by kernel_rfl
@[simp] theorem Tryd.bytes135 : Tryd.prog.bytesOf 135 = 8 := by kernel_rfl
@[simp] theorem Tryd.zc135 : zcells Tryd.prog 135 = some [.nilfn] := by kernel_rfl
@[simp] theorem Tryd.zl135 : zlen Tryd.prog 135 = 1 := by kernel_rfl
@[simp] theorem Tryd.cells136 : Tryd.prog.cellsOf 136 = 1 := by kernel_rfl
@[simp] theorem Tryd.bytes136 : Tryd.prog.bytesOf 136 = 8 := by kernel_rfl
@[simp] theorem Tryd.zc136 : zcells Tryd.prog 136 = some [.nilfn] := by kernel_rfl
@[simp] theorem Tryd.zl136 : zlen Tryd.prog 136 = 1 := by kernel_rfl
@[simp] theorem Tryd.cells137 : Tryd.prog.cellsOf 137 = 1 := by kernel_rfl
@[simp] theorem Tryd.bytes137 : Tryd.prog.bytesOf 137 = 8 := by kernel_rfl
@[simp] theorem Tryd.zc137 : zcells Tryd.prog 137 = some [.nilfn] := by kernel_rfl
@[simp] theorem Tryd.zl137 : zlen Tryd.prog 137 = 1 := by kernel_rfl
@[simp] theorem Tryd.cells138 : Tryd.prog.cellsOf 138 = 1 := by kernel_rfl
@[simp] theorem Tryd.bytes138 : Tryd.prog.bytesOf 138 = 8 := by kernel_rfl
@[simp] theorem Tryd.zc138 : zcells Tryd.prog 138 = some [.nilfn] := by kernel_rfl
@[simp] theorem Tryd.zl138 : zlen Tryd.prog 138 = 1 := by kernel_rfl
@[simp] theorem Tryd.cells139 : Tryd.prog.cellsOf 139 = 1 := by kernel_rfl
@[simp] theorem Tryd.bytes139 : Tryd.prog.bytesOf 139 = 8 := by kernel_rfl
@[simp] theorem Tryd.zc139 : zcells Tryd.prog 139 = some [.nilfn] := by kernel_rfl
@[simp] theorem Tryd.zl139 : zlen Tryd.prog 139 = 1 := by kernel_rfl
@[simp] theorem Tryd.cells140 : Tryd.prog.cellsOf 140 = 1 := by kernel_rfl
@[simp] theorem Tryd.bytes140 : Tryd.prog.bytesOf 140 = 8 := by kernel_rfl
@[simp] theorem Tryd.zc140 : zcells Tryd.prog 140 = some [.int .u64 0] := by kernel_rfl
@[simp] theorem Tryd.zl140 : zlen Tryd.prog 140 = 1 := by kernel_rfl
@[simp] theorem Tryd.cells141 : Tryd.prog.cellsOf 141 = 1 := by kernel_rfl
@[simp] theorem Tryd.bytes141 : Tryd.prog.bytesOf 141 = 8 := by kernel_rfl
@[simp] theorem Tryd.zc141 : zcells Tryd.prog 141 = some [.nilfn] := by kernel_rfl
@[simp] theorem Tryd.zl141 : zlen Tryd.prog 141 = 1 := by kernel_rfl
@[simp] theorem Tryd.cells142 : Tryd.prog.cellsOf 142 = 1 := by kernel_rfl
@[simp] theorem Tryd.bytes142 : Tryd.prog.bytesOf 142 = 8 := by kernel_rfl
@[simp] theorem Tryd.zc142 : zcells Tryd.prog 142 = some [.nilfn] := by kernel_rfl
@[simp] theorem Tryd.zl142 : zlen Tryd.prog 142 = 1 := by kernel_rfl
@[simp] theorem Tryd.cells143 : Tryd.prog.cellsOf 143 = 1 := by kernel_rfl
@[simp] theorem Tryd.bytes143 : Tryd.prog.bytesOf 143 = 8 := by kernel_rfl
@[simp] theorem Tryd.zc143 : zcells Tryd.prog 143 = some [.nilfn] := by kernel_rfl
@[simp] theorem Tryd.zl143 : zlen Tryd.prog 143 = 1 := by kernel_rfl
@[simp] theorem Tryd.cells144 : Tryd.prog.cellsOf 144 = 1 := by kernel_rfl
@[simp] theorem Tryd.bytes144 : Tryd.prog.bytesOf 144 = 8 := by kernel_rfl
@[simp] theorem Tryd.zc144 : zcells Tryd.prog 144 = some [.nilfn] := by kernel_rfl
@[simp] theorem Tryd.zl144 : zlen Tryd.prog 144 = 1 := by kernel_rfl
@[simp] theorem Tryd.cells145 : Tryd.prog.cellsOf 145 = 1 := by kernel_rfl
@[simp] theorem Tryd.bytes145 : Tryd.prog.bytesOf 145 = 8 := by kernel_rfl
@[simp] theorem Tryd.zc145 : zcells Tryd.prog 145 = some [.nilfn] := by kernel_rfl
@[simp] theorem Tryd.zl145 : zlen Tryd.prog 145 = 1 := by kernel_rfl
@[simp] theorem Tryd.cells146 : Tryd.prog.cellsOf 146 = 1 := by kernel_rfl
@[simp] theorem Tryd.bytes146 : Tryd.prog.bytesOf 146 = 8 := by kernel_rfl
@[simp] theorem Tryd.zc146 : zcells Tryd.prog 146 = some [.nilfn] := by kernel_rfl
@[simp] theorem Tryd.zl146 : zlen Tryd.prog 146 = 1 := by kernel_rfl
@[simp] theorem Tryd.cells147 : Tryd.prog.cellsOf 147 = 1 := by kernel_rfl
@[simp] theorem Tryd.bytes147 : Tryd.prog.bytesOf 147 = 8 := by kernel_rfl
@[simp] theorem Tryd.zc147 : zcells Tryd.prog 147 = some [.nilfn] := by kernel_rfl
@[simp] theorem Tryd.zl147 : zlen Tryd.prog 147 = 1 := by kernel_rfl
@[simp] theorem Tryd.cells148 : Tryd.prog.cellsOf 148 = 1 := by kernel_rfl
@[simp] theorem Tryd.bytes148 : Tryd.prog.bytesOf 148 = 8 := by kernel_rfl
@[simp] theorem Tryd.zc148 : zcells Tryd.prog 148 = some [.nilfn] := by kernel_rfl
@[simp] theorem Tryd.zl148 : zlen Tryd.prog 148 = 1 := by kernel_rfl
@[simp] theorem Tryd.cells149 : Tryd.prog.cellsOf 149 = 24 := by kernel_rfl
@[simp] theorem Tryd.bytes149 : Tryd.prog.bytesOf 149 = 24 := by kernel_rfl
@[simp] theorem Tryd.zc149 : zcells Tryd.prog 149 = some [.int .u8 0, .int .u8 0, .int .u8 0, .int .u8 0, .int .u8 0, .int .u8 0, .int .u8 0, .int .u8 0, .int .u8 0, .int .u8 0, .int .u8 0, .int .u8 0, .int .u8 0, .int .u8 0, .int .u8 0, .int .u8 0, .int .u8 0, .int .u8 0, .int .u8 0, .int .u8 0, .int .u8 0, .int .u8 0, .int .u8 0, .int .u8 0] := by kernel_rfl
@[simp] theorem Tryd.zl149 : zlen Tryd.prog 149 = 24 := by kernel_rfl
@[simp] theorem Tryd.cells150 : Tryd.prog.cellsOf 150 = 1 := by kernel_rfl
@[simp] theorem Tryd.bytes150 : Tryd.prog.bytesOf 150 = 8 := by kernel_rfl
@[simp] theorem Tryd.zc150 : zcells Tryd.prog 150 = some [.nilfn] := by kernel_rfl
@[simp] theorem Tryd.zl150 : zlen Tryd.prog 150 = 1 := by kernel_rfl
@[simp] theorem Tryd.cells151 : Tryd.prog.cellsOf 151 = 1 := by kernel_rfl
@[simp] theorem Tryd.bytes151 : Tryd.prog.bytesOf 151 = 8 := by kernel_rfl
@[simp] theorem Tryd.zc151 : zcells Tryd.prog 151 = some [.nilfn] := by kernel_rfl
@[simp] theorem Tryd.zl151 : zlen Tryd.prog 151 = 1 := by kernel_rfl
@[simp] theorem Tryd.cells153 : Tryd.prog.cellsOf 153 = 1 := by kernel_rfl
@[simp] theorem Tryd.bytes153 : Tryd.prog.bytesOf 153 = 8 := by kernel_rfl
@[simp] theorem Tryd.zc153 : zcells Tryd.prog 153 = some [.nilfn] := by kernel_rfl
@[simp] theorem Tryd.zl153 : zlen Tryd.prog 153 = 1 := by kernel_rfl
@[simp] theorem Tryd.cells154 : Tryd.prog.cellsOf 154 = 1 := by kernel_rfl
@[simp] theorem Tryd.bytes154 : Tryd.prog.bytesOf 154 = 8 := by kernel_rfl
@[simp] theorem Tryd.zc154 : zcells Tryd.prog 154 = some [.nilp] := by kernel_rfl
@[simp] theorem Tryd.zl154 : zlen Tryd.prog 154 = 1 := by kernel_rfl
@[simp] theorem Tryd.cells155 : Tryd.prog.cellsOf 155 = 1 := by kernel_rfl
@[simp] theorem Tryd.bytes155 : Tryd.prog.bytesOf 155 = 8 := by kernel_rfl
@[simp] theorem Tryd.zc155 : zcells Tryd.prog 155 = some [.nilfn] := by kernel_rfl
@[simp] theorem Tryd.zl155 : zlen Tryd.prog 155 = 1 := by kernel_rfl
@[simp] theorem Tryd.cells156 : Tryd.prog.cellsOf 156 = 1 := by kernel_rfl
@[simp] theorem Tryd.bytes156 : Tryd.prog.bytesOf 156 = 8 := by kernel_rfl
@[simp] theorem Tryd.zc156 : zcells Tryd.prog 156 = some [.nilfn] := by kernel_rfl
@[simp] theorem Tryd.zl156 : zlen Tryd.prog 156 = 1 := by kernel_rfl
@[simp] theorem Tryd.cells157 : Tryd.prog.cellsOf 157 = 1 := by kernel_rfl
@[simp] theorem Tryd.bytes157 : Tryd.prog.bytesOf 157 = 8 := by kernel_rfl
@[simp] theorem Tryd.zc157 : zcells Tryd.prog 157 = some [.int .i64 0] := by kernel_rfl
@[simp] theorem Tryd.zl157 : zlen Tryd.prog 157 = 1 := by kernel_rfl
@[simp] theorem Tryd.cells158 : Tryd.prog.cellsOf 158 = 1 := by kernel_rfl
@[simp] theorem Tryd.bytes158 : Tryd.prog.bytesOf 158 = 8 := by kernel_rfl
@[simp] theorem Tryd.zc158 : zcells Tryd.prog 158 = some [.nilfn] := by kernel_rfl
@[simp] theorem Tryd.zl158 : zlen Tryd.prog 158 = 1 := by kernel_rfl
@[simp] theorem Tryd.cells159 : Tryd.prog.cellsOf 159 = 1 := by kernel_rfl
@[simp] theorem Tryd.bytes159 : Tryd.prog.bytesOf 159 = 8 := by kernel_rfl
@[simp] theorem Tryd.zc159 : zcells Tryd.prog 159 = some [.nilp] := by kernel_rfl
@[simp] theorem Tryd.zl159 : zlen Tryd.prog 159 = 1 := by kernel_rfl
@[simp] theorem Tryd.cells160 : Tryd.prog.cellsOf 160 = 1 := by kernel_rfl
@[simp] theorem Tryd.bytes160 : Tryd.prog.bytesOf 160 = 8 := by kernel_rfl
@[simp] theorem Tryd.zc160 : zcells Tryd.prog 160 = some [.nilfn] := by kernel_rfl
@[simp] theorem Tryd.zl160 : zlen Tryd.prog 160 = 1 := by kernel_rfl
@[simp] theorem Tryd.cells161 : Tryd.prog.cellsOf 161 = 1 := by kernel_rfl
@[simp] theorem Tryd.bytes161 : Tryd.prog.bytesOf 161 = 8 := by kernel_rfl
@[simp] theorem Tryd.zc161 : zcells Tryd.prog 161 = some [.nilfn] := by kernel_rfl
@[simp] theorem Tryd.zl161 : zlen Tryd.prog 161 = 1 := by kernel_rfl
@[simp] theorem Tryd.cells162 : Tryd.prog.cellsOf 162 = 1 := by kernel_rfl
@[simp] theorem Tryd.bytes162 : Tryd.prog.bytesOf 162 = 8 := by kernel_rfl
@[simp] theorem Tryd.zc162 : zcells Tryd.prog 162 = some [.nilfn] := by kernel_rfl
@[simp] theorem Tryd.zl162 : zlen Tryd.prog 162 = 1 := by kernel_rfl
@[simp] theorem Tryd.cells163 : Tryd.prog.cellsOf 163 = 20 := by kernel_rfl
@[simp] theorem Tryd.bytes163 : Tryd.prog.bytesOf 163 = 160 := by kernel_rfl
@[simp] theorem Tryd.zc163 : zcells Tryd.prog 163 = some [.int .u64 0, .int .u64 0, .int .u64 0, .int .u64 0, .int .u64 0, .int .u64 0, .int .u64 0, .int .u64 0, .int .u64 0, .int .u64 0, .int .u64 0, .int .u64 0, .int .u64 0, .int .u64 0, .int .u64 0, .int .u64 0, .int .u64 0, .int .u64 0, .int .u64 0, .int .u64 0] := by kernel_rfl
@[simp] theorem Tryd.zl163 : zlen Tryd.prog 163 = 20 := by kernel_rfl
@[simp] theorem Tryd.cells164 : Tryd.prog.cellsOf 164 = 65 := by kernel_rfl
@[simp] theorem Tryd.bytes164 : Tryd.prog.bytesOf 164 = 65 := by kernel_rfl
@[simp] theorem Tryd.zc164 : zcells Tryd.prog 164 = some [.int .u8 0, .int .u8 0, .int .u8 0, .int .u8 0, .int .u8 0, .int .u8 0, .int .u8 0, .int .u8 0, .int .u8 0, .int .u8 0, .int .u8 0, .int .u8 0, .int .u8 0, .int .u8 0, .int .u8 0, .int .u8 0, .int .u8 0, .int .u8 0, .int .u8 0, .int .u8 0, .int .u8 0, .int .u8 0, .int .u8 0, .int .u8 0, .int .u8 0, .int .u8 0, .int .u8 0, .int .u8 0, .int .u8 0, .int .u8 0, .int .u8 0, .int .u8 0, .int .u8 0, .int .u8 0, .int .u8 0, .int .u8 0, .int .u8 0, .int .u8 0, .int .u8 0, .int .u8 0, .int .u8 0, .int .u8 0, .int .u8 0, .int .u8 0, .int .u8 0, .int .u8 0, .int .u8 0, .int .u8 0, .int .u8 0, .int .u8 0, .int .u8 0, .int .u8 0, .int .u8 0, .int .u8 0, .int .u8 0, .int .u8 0, .int .u8 0, .int .u8 0, .int .u8 0, .int .u8 0, .int .u8 0, .int .u8 0, .int .u8 0, .int .u8 0, .int .u8 0] := by kernel_rfl
@[simp] theorem Tryd.zl164 : zlen Tryd.prog 164 = 65 := by kernel_rfl
@[simp] theorem Tryd.cells165 : Tryd.prog.cellsOf 165 = 1 := by kernel_rfl
@[simp] theorem Tryd.bytes165 : Tryd.prog.bytesOf 165 = 8 := by kernel_rfl
@[simp] theorem Tryd.zc165 : zcells Tryd.prog 165 = some [.nilfn] := by kernel_rfl
@[simp] theorem Tryd.zl165 : zlen Tryd.prog 165 = 1 := by kernel_rfl
@[simp] theorem Tryd.cells166 : Tryd.prog.cellsOf 166 = 1 := by kernel_rfl
@[simp] theorem Tryd.bytes166 : Tryd.prog.bytesOf 166 = 8 := by kernel_rfl
@[simp] theorem Tryd.zc166 : zcells Tryd.prog 166 = some [.nilfn] := by kernel_rfl
@[simp] theorem Tryd.zl166 : zlen Tryd.prog 166 = 1 := by kernel_rfl
@[simp] theorem Tryd.cells167 : Tryd.prog.cellsOf 167 = 1 := by kernel_rfl
@[simp] theorem Tryd.bytes167 : Tryd.prog.bytesOf 167 = 8 := by kernel_rfl
@[simp] theorem Tryd.zc167 : zcells Tryd.prog 167 = some [.nilp] := by kernel_rfl
@[simp] theorem Tryd.zl167 : zlen Tryd.prog 167 = 1 := by kernel_rfl
@[simp] theorem Tryd.cells168 : Tryd.prog.cellsOf 168 = 1 := by kernel_rfl
@[simp] theorem Tryd.bytes168 : Tryd.prog.bytesOf 168 = 8 := by kernel_rfl
@[simp] theorem Tryd.zc168 : zcells Tryd.prog 168 = some [.nilfn] := by kernel_rfl
@[simp] theorem Tryd.zl168 : zlen Tryd.prog 168 = 1 := by kernel_rfl
@[simp] theorem Tryd.cells169 : Tryd.prog.cellsOf 169 = 1 := by kernel_rfl
@[simp] theorem Tryd.bytes169 : Tryd.prog.bytesOf 169 = 8 := by kernel_rfl
@[simp] theorem Tryd.zc169 : zcells Tryd.prog 169 = some [.nilfn] := by kernel_rfl
@[simp] theorem Tryd.zl169 : zlen Tryd.prog 169 = 1 := by kernel_rfl
@[simp] theorem Tryd.cells171 : Tryd.prog.cellsOf 171 = 1 := by kernel_rfl
@[simp] theorem Tryd.bytes171 : Tryd.prog.bytesOf 171 = 8 := by kernel_rfl
@[simp] theorem Tryd.zc171 : zcells Tryd.prog 171 = some [.nilfn] := by kernel_rfl
@[simp] theorem Tryd.zl171 : zlen Tryd.prog 171 = 1 := by kernel_rfl
@[simp] theorem Tryd.cells172 : Tryd.prog.cellsOf 172 = 1 := by kernel_rfl
@[simp] theorem Tryd.bytes172 : Tryd.prog.bytesOf 172 = 8 := by kernel_rfl
@[simp] theorem Tryd.zc172 : zcells Tryd.prog 172 = some [.nilfn] := by kernel_rfl
@[simp] theorem Tryd.zl172 : zlen Tryd.prog 172 = 1 := by kernel_rfl
@[simp] theorem Tryd.cells173 : Tryd.prog.cellsOf 173 = 1 := by kernel_rfl
@[simp] theorem Tryd.bytes173 : Tryd.prog.bytesOf 173 = 8 := by kernel_rfl
@[simp] theorem Tryd.zc173 : zcells Tryd.prog 173 = some [.nilfn] := by kernel_rfl
@[simp] theorem Tryd.zl173 : zlen Tryd.prog 173 = 1 := by kernel_rfl
@[simp] theorem Tryd.cells174 : Tryd.prog.cellsOf 174 = 3 := by kernel_rfl
@[simp] theorem Tryd.bytes174 : Tryd.prog.bytesOf 174 = 48 := by kernel_rfl
@[simp] theorem Tryd.zc174 : zcells Tryd.prog 174 = some [.str ByteArray.empty, .str ByteArray.empty, .nilif] := by kernel_rfl
@[simp] theorem Tryd.zl174 : zlen Tryd.prog 174 = 3 := by kernel_rfl
@[simp] theorem Tryd.cells175 : Tryd.prog.cellsOf 175 = 3 := by kernel_rfl
@[simp] theorem Tryd.bytes175 : Tryd.prog.bytesOf 175 = 48 := by kernel_rfl
@[simp] theorem Tryd.zc175 : zcells Tryd.prog 175 = some [.str ByteArray.empty, .str ByteArray.empty, .nilif] := by kernel_rfl
@[simp] theorem Tryd.zl175 : zlen Tryd.prog 175 = 3 := by kernel_rfl
@[simp] theorem Tryd.cells176 : Tryd.prog.cellsOf 176 = 1 := by kernel_rfl
@[simp] theorem Tryd.bytes176 : Tryd.prog.bytesOf 176 = 8 := by kernel_rfl
@[simp] theorem Tryd.zc176 : zcells Tryd.prog 176 = some [.nilfn] := by kernel_rfl
@[simp] theorem Tryd.zl176 : zlen Tryd.prog 176 = 1 := by kernel_rfl
@[simp] theorem Tryd.cells177 : Tryd.prog.cellsOf 177 = 1 := by kernel_rfl
@[simp] theorem Tryd.bytes177 : Tryd.prog.bytesOf 177 = 8 := by kernel_rfl
@[simp] theorem Tryd.zc177 : zcells Tryd.prog 177 = some [.nilfn] := by kernel_rfl
@[simp] theorem Tryd.zl177 : zlen Tryd.prog 177 = 1 := by kernel_rfl
@[simp] theorem Tryd.cells179 : Tryd.prog.cellsOf 179 = 1 := by kernel_rfl
@[simp] theorem Tryd.bytes179 : Tryd.prog.bytesOf 179 = 8 := by kernel_rfl
@[simp] theorem Tryd.zc179 : zcells Tryd.prog 179 = some [.nilfn] := by kernel_rfl
@[simp] theorem Tryd.zl179 : zlen Tryd.prog 179 = 1 := by kernel_rfl
@[simp] theorem Tryd.cells180 : Tryd.prog.cellsOf 180 = 1 := by kernel_rfl
@[simp] theorem Tryd.bytes180 : Tryd.prog.bytesOf 180 = 8 := by kernel_rfl
@[simp] theorem Tryd.zc180 : zcells Tryd.prog 180 = some [.nilp] := by kernel_rfl
@[simp] theorem Tryd.zl180 : zlen Tryd.prog 180 = 1 := by kernel_rfl
@[simp] theorem Tryd.cells181 : Tryd.prog.cellsOf 181 = 1 := by kernel_rfl
@[simp] theorem Tryd.bytes181 : Tryd.prog.bytesOf 181 = 16 := by kernel_rfl
@[simp] theorem Tryd.zc181 : zcells Tryd.prog 181 = some [.str ByteArray.empty] := by kernel_rfl
@[simp] theorem Tryd.zl181 : zlen Tryd.prog 181 = 1 := by kernel_rfl
@[simp] theorem Tryd.eqa181 (x0 y0 : ByteArray) : EqA Tryd.prog 181 [.str x0] [.str y0] :=
  EqA_of (l := [.str]) 6 (by kernel_rfl) (by kernel_rfl) (by kernel_rfl) (by kernel_rfl) (by omega) (by simp [LSS, SSh]) (by simp [LSS, SSh])
@[simp] theorem Tryd.cells182 : Tryd.prog.cellsOf 182 = 1 := by kernel_rfl
@[simp] theorem Tryd.bytes182 : Tryd.prog.bytesOf 182 = 16 := by kernel_rfl
@[simp] theorem Tryd.zc182 : zcells Tryd.prog 182 = some [.str ByteArray.empty] := by kernel_rfl
@[simp] theorem Tryd.zl182 : zlen Tryd.prog 182 = 1 := by kernel_rfl
@[simp] theorem Tryd.eqa182 (x0 y0 : ByteArray) : EqA Tryd.prog 182 [.str x0] [.str y0] :=
  EqA_of (l := [.str]) 6 (by kernel_rfl) (by kernel_rfl) (by kernel_rfl) (by kernel_rfl) (by omega) (by simp [LSS, SSh]) (by simp [LSS, SSh])
@[simp] theorem Tryd.cells183 : Tryd.prog.cellsOf 183 = 32 := by kernel_rfl
@[simp] theorem Tryd.bytes183 : Tryd.prog.bytesOf 183 = 32 := by kernel_rfl
@[simp] theorem Tryd.zc183 : zcells Tryd.prog 183 = some [.int .u8 0, .int .u8 0, .int .u8 0, .int .u8 0, .int .u8 0, .int .u8 0, .int .u8 0, .int .u8 0, .int .u8 0, .int .u8 0, .int .u8 0, .int .u8 0, .int .u8 0, .int .u8 0, .int .u8 0, .int .u8 0, .int .u8 0, .int .u8 0, .int .u8 0, .int .u8 0, .int .u8 0, .int .u8 0, .int .u8 0, .int .u8 0, .int .u8 0, .int .u8 0, .int .u8 0, .int .u8 0, .int .u8 0, .int .u8 0, .int .u8 0, .int .u8 0] := by kernel_rfl
@[simp] theorem Tryd.zl183 : zlen Tryd.prog 183 = 32 := by kernel_rfl
@[simp] theorem Tryd.cells184 : Tryd.prog.cellsOf 184 = 64 := by kernel_rfl
@[simp] theorem Tryd.bytes184 : Tryd.prog.bytesOf 184 = 64 := by kernel_rfl
@[simp] theorem Tryd.zc184 : zcells Tryd.prog 184 = some [.int .u8 0, .int .u8 0, .int .u8 0, .int .u8 0, .int .u8 0, .int .u8 0, .int .u8 0, .int .u8 0, .int .u8 0, .int .u8 0, .int .u8 0, .int .u8 0, .int .u8 0, .int .u8 0, .int .u8 0, .int .u8 0, .int .u8 0, .int .u8 0, .int .u8 0, .int .u8 0, .int .u8 0, .int .u8 0, .int .u8 0, .int .u8 0, .int .u8 0, .int .u8 0, .int .u8 0, .int .u8 0, .int .u8 0, .int .u8 0, .int .u8 0, .int .u8 0, .int .u8 0, .int .u8 0, .int .u8 0, .int .u8 0, .int .u8 0, .int .u8 0, .int .u8 0, .int .u8 0, .int .u8 0, .int .u8 0, .int .u8 0, .int .u8 0, .int .u8 0, .int .u8 0, .int .u8 0, .int .u8 0, .int .u8 0, .int .u8 0, .int .u8 0, .int .u8 0, .int .u8 0, .int .u8 0, .int .u8 0, .int .u8 0, .int .u8 0, .int .u8 0, .int .u8 0, .int .u8 0, .int .u8 0, .int .u8 0, .int .u8 0, .int .u8 0] := by kernel_rfl
@[simp] theorem Tryd.zl184 : zlen Tryd.prog 184 = 64 := by kernel_rfl
@[simp] theorem Tryd.cells185 : Tryd.prog.cellsOf 185 = 256 := by kernel_rfl
@[simp] theorem Tryd.bytes185 : Tryd.prog.bytesOf 185 = 256 := by kernel_rfl
@[simp] theorem Tryd.zc185 : zcells Tryd.prog 185 = some [.int .u8 0, .int .u8 0, .int .u8 0, .int .u8 0, .int .u8 0, .int .u8 0, .int .u8 0, .int .u8 0, .int .u8 0, .int .u8 0, .int .u8 0, .int .u8 0, .int .u8 0, .int .u8 0, .int .u8 0, .int .u8 0, .int .u8 0, .int .u8 0, .int .u8 0, .int .u8 0, .int .u8 0, .int .u8 0, .int .u8 0, .int .u8 0, .int .u8 0, .int .u8 0, .int .u8 0, .int .u8 0, .int .u8 0, .int .u8 0, .int .u8 0, .int .u8 0, .int .u8 0, .int .u8 0, .int .u8 0, .int .u8 0, .int .u8 0, .int .u8 0, .int .u8 0, .int .u8 0, .int .u8 0, .int .u8 0, .int .u8 0, .int .u8 0, .int .u8 0, .int .u8 0, .int .u8 0, .int .u8 0, .int .u8 0, .int .u8 0, .int .u8 0, .int .u8 0, .int .u8 0, .int .u8 0, .int .u8 0, .int .u8 0, .int .u8 0, .int .u8 0, .int .u8 0, .int .u8 0, .int .u8 0, .int .u8 0, .int .u8 0, .int .u8 0, .int .u8 0, .int .u8 0, .int .u8 0, .int .u8 0, .int .u8 0, .int .u8 0, .int .u8 0, .int .u8 0, .int .u8 0, .int .u8 0, .int .u8 0, .int .u8 0, .int .u8 0, .int .u8 0, .int .u8 0, .int .u8 0, .int .u8 0, .int .u8 0, .int .u8 0, .int .u8 0, .int .u8 0, .int .u8 0, .int .u8 0, .int .u8 0, .int .u8 0, .int .u8 0, .int .u8 0, .int .u8 0, .int .u8 0, .int .u8 0, .int .u8 0, .int .u8 0, .int .u8 0, .int .u8 0, .int .u8 0, .int .u8 0, .int .u8 0, .int .u8 0, .int .u8 0, .int .u8 0, .int .u8 0, .int .u8 0, .int .u8 0, .int .u8 0, .int .u8 0, .int .u8 0, .int .u8 0, .int .u8 0, .int .u8 0, .int .u8 0, .int .u8 0, .int .u8 0, .int .u8 0, .int .u8 0, .int .u8 0, .int .u8 0, .int .u8 0, .int .u8 0, .int .u8 0, .int .u8 0, .int .u8 0, .int .u8 0, .int .u8 0, .int .u8 0, .int .u8 0, .int .u8 0, .int .u8 0, .int .u8 0, .int .u8 0, .int .u8 0, .int .u8 0, .int .u8 0, .int .u8 0, .int .u8 0, .int .u8 0, .int .u8 0, .int .u8 0, .int .u8 0, .int .u8 0, .int .u8 0, .int .u8 0, .int .u8 0, .int .u8 0, .int .u8 0, .int .u8 0, .int .u8 0, .int .u8 0, .int .u8 0, .int .u8 0, .int .u8 0, .int .u8 0, .int .u8 0, .int .u8 0, .int .u8 0, .int .u8 0, .int .u8 0, .int .u8 0, .int .u8 0, .int .u8 0, .int .u8 0, .int .u8 0, .int .u8 0, .int .u8 0, .int .u8 0, .int .u8 0, .int .u8 0, .int .u8 0, .int .u8 0, .int .u8 0, .int .u8 0, .int .u8 0, .int .u8 0, .int .u8 0, .int .u8 0, .int .u8 0, .int .u8 0, .int .u8 0, .int .u8 0, .int .u8 0, .int .u8 0, .int .u8 0, .int .u8 0, .int .u8 0, .int .u8 0, .int .u8 0, .int .u8 0, .int .u8 0, .int .u8 0, .int .u8 0, .int .u8 0, .int .u8 0, .int .u8 0, .int .u8 0, .int .u8 0, .int .u8 0, .int .u8 0, .int .u8 0, .int .u8 0, .int .u8 0, .int .u8 0, .int .u8 0, .int .u8 0, .int .u8 0, .int .u8 0, .int .u8 0, .int .u8 0, .int .u8 0, .int .u8 0, .int .u8 0, .int .u8 0, .int .u8 0, .int .u8 0, .int .u8 0, .int .u8 0, .int .u8 0, .int .u8 0, .int .u8 0, .int .u8 0, .int .u8 0, .int .u8 0, .int .u8 0, .int .u8 0, .int .u8 0, .int .u8 0, .int .u8 0, .int .u8 0, .int .u8 0, .int .u8 0, .int .u8 0, .int .u8 0, .int .u8 0, .int .u8 0, .int .u8 0, .int .u8 0, .int .u8 0, .int .u8 0, .int .u8 0, .int .u8 0, .int .u8 0, .int .u8 0, .int .u8 0, .int .u8 0, .int .u8 0, .int .u8 0, .int .u8 0, .int .u8 0, .int .u8 0, .int .u8 0, .int .u8 0, .int .u8 0, .int .u8 0, .int .u8 0] := by kernel_rfl
@[simp] theorem Tryd.zl185 : zlen Tryd.prog 185 = 256 := by kernel_rfl
@[simp] theorem Tryd.cells186 : Tryd.prog.cellsOf 186 = 2 := by kernel_rfl
@[simp] theorem Tryd.bytes186 : Tryd.prog.bytesOf 186 = 2 := by kernel_rfl
@[simp] theorem Tryd.zc186 : zcells Tryd.prog 186 = some [.int .u8 0, .int .u8 0] := by kernel_rfl
@[simp] theorem Tryd.zl186 : zlen Tryd.prog 186 = 2 := by kernel_rfl
@[simp] theorem Tryd.eqa186 (x0 y0 : Int) (x1 y1 : Int) : EqA Tryd.prog 186 [.int .u8 x0, .int .u8 x1] [.int .u8 y0, .int .u8 y1] :=
  EqA_of (l := [.int .u8, .int .u8]) 6 (by kernel_rfl) (by kernel_rfl) (by kernel_rfl) (by kernel_rfl) (by omega) (by simp [LSS, SSh]) (by simp [LSS, SSh])
@[simp] theorem Tryd.cells187 : Tryd.prog.cellsOf 187 = 2 := by kernel_rfl
@[simp] theorem Tryd.bytes187 : Tryd.prog.bytesOf 187 = 2 := by kernel_rfl
@[simp] theorem Tryd.zc187 : zcells Tryd.prog 187 = some [.int .u8 0, .int .u8 0] := by kernel_rfl
@[simp] theorem Tryd.zl187 : zlen Tryd.prog 187 = 2 := by kernel_rfl
@[simp] theorem Tryd.eqa187 (x0 y0 : Int) (x1 y1 : Int) : EqA Tryd.prog 187 [.int .u8 x0, .int .u8 x1] [.int .u8 y0, .int .u8 y1] :=
  EqA_of (l := [.int .u8, .int .u8]) 6 (by kernel_rfl) (by kernel_rfl) (by kernel_rfl) (by kernel_rfl) (by omega) (by simp [LSS, SSh]) (by simp [LSS, SSh])
@[simp] theorem Tryd.cells188 : Tryd.prog.cellsOf 188 = 32 := by kernel_rfl
@[simp] theorem Tryd.bytes188 : Tryd.prog.bytesOf 188 = 32 := by kernel_rfl
@[simp] theorem Tryd.zc188 : zcells Tryd.prog 188 = some [.int .u8 0, .int .u8 0, .int .u8 0, .int .u8 0, .int .u8 0, .int .u8 0, .int .u8 0, .int .u8 0, .int .u8 0, .int .u8 0, .int .u8 0, .int .u8 0, .int .u8 0, .int .u8 0, .int .u8 0, .int .u8 0, .int .u8 0, .int .u8 0, .int .u8 0, .int .u8 0, .int .u8 0, .int .u8 0, .int .u8 0, .int .u8 0, .int .u8 0, .int .u8 0, .int .u8 0, .int .u8 0, .int .u8 0, .int .u8 0, .int .u8 0, .int .u8 0] := by kernel_rfl
@[simp] theorem Tryd.zl188 : zlen Tryd.prog 188 = 32 := by kernel_rfl
@[simp] theorem Tryd.cells189 : Tryd.prog.cellsOf 189 = 4 := by kernel_rfl
@[simp] theorem Tryd.bytes189 : Tryd.prog.bytesOf 189 = 40 := by kernel_rfl
@[simp] theorem Tryd.zc189 : zcells Tryd.prog 189 = some [.nilp, .nilp, .nilp, .str ByteArray.empty] := by kernel_rfl
@[simp] theorem Tryd.zl189 : zlen Tryd.prog 189 = 4 := by kernel_rfl
@[simp] theorem Tryd.cells190 : Tryd.prog.cellsOf 190 = 4 := by kernel_rfl
@[simp] theorem Tryd.bytes190 : Tryd.prog.bytesOf 190 = 40 := by kernel_rfl
@[simp] theorem Tryd.zc190 : zcells Tryd.prog 190 = some [.nilp, .nilp, .nilp, .str ByteArray.empty] := by kernel_rfl
@[simp] theorem Tryd.zl190 : zlen Tryd.prog 190 = 4 := by kernel_rfl
@[simp] theorem Tryd.cells191 : Tryd.prog.cellsOf 191 = 0 := by kernel_rfl
@[simp] theorem Tryd.bytes191 : Tryd.prog.bytesOf 191 = 0 := by kernel_rfl
@[simp] theorem Tryd.zc191 : zcells Tryd.prog 191 = some [] := by kernel_rfl
@[simp] theorem Tryd.zl191 : zlen Tryd.prog 191 = 0 := by kernel_rfl
@[simp] theorem Tryd.cells192 : Tryd.prog.cellsOf 192 = 0 := by kernel_rfl
@[simp] theorem Tryd.bytes192 : Tryd.prog.bytesOf 192 = 0 := by kernel_rfl
@[simp] theorem Tryd.zc192 : zcells Tryd.prog 192 = some [] := by kernel_rfl
@[simp] theorem Tryd.zl192 : zlen Tryd.prog 192 = 0 := by kernel_rfl
@[simp] theorem Tryd.cells193 : Tryd.prog.cellsOf 193 = 0 := by kernel_rfl
@[simp] theorem Tryd.bytes193 : Tryd.prog.bytesOf 193 = 0 := by kernel_rfl
@[simp] theorem Tryd.zc193 : zcells Tryd.prog 193 = some [] := by kernel_rfl
@[simp] theorem Tryd.zl193 : zlen Tryd.prog 193 = 0 := by kernel_rfl
@[simp] theorem Tryd.cells194 : Tryd.prog.cellsOf 194 = 1 := by kernel_rfl
@[simp] theorem Tryd.bytes194 : Tryd.prog.bytesOf 194 = 1 := by kernel_rfl
@[simp] theorem Tryd.zc194 : zcells Tryd.prog 194 = some [.int .u8 0] := by kernel_rfl
@[simp] theorem Tryd.zl194 : zlen Tryd.prog 194 = 1 := by kernel_rfl
@[simp] theorem Tryd.cells195 : Tryd.prog.cellsOf 195 = 1 := by kernel_rfl
@[simp] theorem Tryd.bytes195 : Tryd.prog.bytesOf 195 = 1 := by kernel_rfl
@[simp] theorem Tryd.zc195 : zcells Tryd.prog 195 = some [.int .u8 0] := by kernel_rfl
@[simp] theorem Tryd.zl195 : zlen Tryd.prog 195 = 1 := by kernel_rfl
@[simp] theorem Tryd.cells196 : Tryd.prog.cellsOf 196 = 1 := by kernel_rfl
@[simp] theorem Tryd.bytes196 : Tryd.prog.bytesOf 196 = 8 := by kernel_rfl
@[simp] theorem Tryd.zc196 : zcells Tryd.prog 196 = some [.nilfn] := by kernel_rfl
@[simp] theorem Tryd.zl196 : zlen Tryd.prog 196 = 1 := by kernel_rfl
@[simp] theorem Tryd.cells197 : Tryd.prog.cellsOf 197 = 1 := by kernel_rfl
@[simp] theorem Tryd.bytes197 : Tryd.prog.bytesOf 197 = 4 := by kernel_rfl
@[simp] theorem Tryd.zc197 : zcells Tryd.prog 197 = some [.int .i32 0] := by kernel_rfl
@[simp] theorem Tryd.zl197 : zlen Tryd.prog 197 = 1 := by kernel_rfl
@[simp] theorem Tryd.cells198 : Tryd.prog.cellsOf 198 = 1 := by kernel_rfl
@[simp] theorem Tryd.bytes198 : Tryd.prog.bytesOf 198 = 4 := by kernel_rfl
@[simp] theorem Tryd.zc198 : zcells Tryd.prog 198 = some [.int .i32 0] := by kernel_rfl
@[simp] theorem Tryd.zl198 : zlen Tryd.prog 198 = 1 := by kernel_rfl
@[simp] theorem Tryd.cells199 : Tryd.prog.cellsOf 199 = 11 := by kernel_rfl
@[simp] theorem Tryd.bytes199 : Tryd.prog.bytesOf 199 = 48 := by kernel_rfl
@[simp] theorem Tryd.zc199 : zcells Tryd.prog 199 = some [.int .u64 0, .int .u64 0, .int .u32 0, .int .u8 0, .int .u8 0, .int .u8 0, .int .u8 0, .nilfn, .nilp, .int .i32 0, .int .i32 0] := by kernel_rfl
@[simp] theorem Tryd.zl199 : zlen Tryd.prog 199 = 11 := by kernel_rfl
@[simp] theorem Tryd.cells200 : Tryd.prog.cellsOf 200 = 11 := by kernel_rfl
@[simp] theorem Tryd.bytes200 : Tryd.prog.bytesOf 200 = 48 := by kernel_rfl
@[simp] theorem Tryd.zc200 : zcells Tryd.prog 200 = some [.int .u64 0, .int .u64 0, .int .u32 0, .int .u8 0, .int .u8 0, .int .u8 0, .int .u8 0, .nilfn, .nilp, .int .i32 0, .int .i32 0] := by kernel_rfl
@[simp] theorem Tryd.zl200 : zlen Tryd.prog 200 = 11 := by kernel_rfl

theorem mixed : Tryd.prog.follows .mixedOrders = true := by kernel_rfl
/-- The library's table of the places of single bits (laid: math/bits.deBruijn64tab). -/
def tab64 : List V := ([0, 1, 56, 2, 57, 49, 28, 3, 61, 58, 42, 50, 38, 29, 17, 4, 62, 47, 59, 36, 45, 43, 51, 22, 53, 39, 33, 30, 24, 18, 12, 5, 63, 55, 48, 27, 60, 41, 37, 16, 46, 35, 44, 21, 52, 32, 23, 11, 54, 26, 40, 15, 34, 20, 31, 10, 25, 14, 19, 9, 13, 8, 7, 6] : List Int).map fun n => .int .u8 n
/-- The powers of ten (laid: internal/strconv.uint64pow10). -/
def pow10V : List Value := Lib.pow10Tab.map fun z => Value.int .u64 z
def gvT (g : Nat) : V := if g = 5 then .rptr tab64 0 else if g = 1 then .rptr [.iany .i64] 0 else if g = 2 then .rptr [.iface 180 .junk] 0 else if g = 3 then .rptr [.iface 180 .junk] 0 else .junk
def gvL (g : Nat) : Option (List Value) := if g = 0 then some pow10V else none
instance : Gl Tryd.prog := ⟨gvT, fun g => by unfold gvT; split; rfl; split; rfl; split; rfl; split <;> rfl, gvL⟩
@[simp] theorem gv_5 : Gl.gv Tryd.prog 5 = .rptr tab64 0 := rfl
theorem gv_max : Gl.gv Tryd.prog 1 = .rptr [.iany .i64] 0 := rfl
theorem gv_syn : Gl.gv Tryd.prog 2 = .rptr [.iface 180 .junk] 0 := rfl
theorem gv_rng : Gl.gv Tryd.prog 3 = .rptr [.iface 180 .junk] 0 := rfl
theorem gl_pow : Gl.lay Tryd.prog 0 = some pow10V := rfl

end Go.Proofs.YtbnjijffkjcmcaaDoor.AL
