import Derived.Test.YtbnjijffkjcmcaaGreatDoorZW1
import Derived.Lib.ItoaNum
import Derived.Test.YtbnjijffkjcmcaaGreatDoorProg
/- What single functions compute: a part of the proof; no conditions. -/
set_option linter.unusedVariables false
set_option linter.unusedSimpArgs false
set_option maxRecDepth 100000
namespace Go.Proofs.YtbnjijffkjcmcaaGreatDoor.AL
open Go
attribute [local simp] qf cv qbin ibin sbin qun retPost rvOk ctV ctPost marksOk retV resAll resOf V.lt ltL V.ren renL V.exp V.exp1 cleanL V.clean closedL V.closed V.cells V.one V.tree
  loadV cellsAt isNC nilQ isSlD isIfD slNew ownRows ownCells V.isOwn slStore srcO qlook mlook mget mstr zval qnone qmake mput lmap isAggD placesOf fillV putCells lstore bound seqParts V.sh shL Blk.sh newV V.ok peqs peq srcRows qbytes byteSl appOk mmV mmR hidE V.fz fzL Blk.fz fzOk and_assoc
attribute [-simp] Int.not_le Int.not_lt Nat.not_le Nat.not_lt
@[simp] theorem Tryz.cells1 : Tryz.prog.cellsOf 1 = 1 := by kernel_rfl
@[simp] theorem Tryz.bytes1 : Tryz.prog.bytesOf 1 = 8 := by kernel_rfl
@[simp] theorem Tryz.zc1 : zcells Tryz.prog 1 = some [.nilfn] := by kernel_rfl
@[simp] theorem Tryz.zl1 : zlen Tryz.prog 1 = 1 := by kernel_rfl
@[simp] theorem Tryz.cells2 : Tryz.prog.cellsOf 2 = 1 := by kernel_rfl
@[simp] theorem Tryz.bytes2 : Tryz.prog.bytesOf 2 = 8 := by kernel_rfl
@[simp] theorem Tryz.zc2 : zcells Tryz.prog 2 = some [.int .i64 0] := by kernel_rfl
@[simp] theorem Tryz.zl2 : zlen Tryz.prog 2 = 1 := by kernel_rfl
@[simp] theorem Tryz.cells3 : Tryz.prog.cellsOf 3 = 1 := by kernel_rfl
@[simp] theorem Tryz.bytes3 : Tryz.prog.bytesOf 3 = 8 := by kernel_rfl
@[simp] theorem Tryz.zc3 : zcells Tryz.prog 3 = some [.int .i64 0] := by kernel_rfl
@[simp] theorem Tryz.zl3 : zlen Tryz.prog 3 = 1 := by kernel_rfl
@[simp] theorem Tryz.cells4 : Tryz.prog.cellsOf 4 = 1 := by kernel_rfl
@[simp] theorem Tryz.bytes4 : Tryz.prog.bytesOf 4 = 1 := by kernel_rfl
@[simp] theorem Tryz.zc4 : zcells Tryz.prog 4 = some [.bool false] := by kernel_rfl
@[simp] theorem Tryz.zl4 : zlen Tryz.prog 4 = 1 := by kernel_rfl
@[simp] theorem Tryz.cells5 : Tryz.prog.cellsOf 5 = 1 := by kernel_rfl
@[simp] theorem Tryz.bytes5 : Tryz.prog.bytesOf 5 = 1 := by kernel_rfl
@[simp] theorem Tryz.zc5 : zcells Tryz.prog 5 = some [.int .u8 0] := by kernel_rfl
@[simp] theorem Tryz.zl5 : zlen Tryz.prog 5 = 1 := by kernel_rfl
@[simp] theorem Tryz.cells6 : Tryz.prog.cellsOf 6 = 1 := by kernel_rfl
@[simp] theorem Tryz.bytes6 : Tryz.prog.bytesOf 6 = 1 := by kernel_rfl
@[simp] theorem Tryz.zc6 : zcells Tryz.prog 6 = some [.int .u8 0] := by kernel_rfl
@[simp] theorem Tryz.zl6 : zlen Tryz.prog 6 = 1 := by kernel_rfl
@[simp] theorem Tryz.cells7 : Tryz.prog.cellsOf 7 = 4 := by kernel_rfl
@[simp] theorem Tryz.bytes7 : Tryz.prog.bytesOf 7 = 24 := by kernel_rfl
@[simp] theorem Tryz.zc7 : zcells Tryz.prog 7 = some [.int .i64 0, .int .i64 0, .bool false, .int .u8 0] := by kernel_rfl
@[simp] theorem Tryz.zl7 : zlen Tryz.prog 7 = 4 := by kernel_rfl
@[simp] theorem Tryz.eqa7 (x0 y0 : Int) (x1 y1 : Int) (x2 y2 : Bool) (x3 y3 : Int) : EqA Tryz.prog 7 [.int .i64 x0, .int .i64 x1, .bool x2, .int .u8 x3] [.int .i64 y0, .int .i64 y1, .bool y2, .int .u8 y3] :=
  EqA_of (l := [.int .i64, .int .i64, .bool, .int .u8]) 6 (by kernel_rfl) (by kernel_rfl) (by kernel_rfl) (by kernel_rfl) (by omega) (by simp [LSS, SSh]) (by simp [LSS, SSh])
@[simp] theorem Tryz.cells8 : Tryz.prog.cellsOf 8 = 4 := by kernel_rfl
@[simp] theorem Tryz.bytes8 : Tryz.prog.bytesOf 8 = 24 := by kernel_rfl
@[simp] theorem Tryz.zc8 : zcells Tryz.prog 8 = some [.int .i64 0, .int .i64 0, .bool false, .int .u8 0] := by kernel_rfl
@[simp] theorem Tryz.zl8 : zlen Tryz.prog 8 = 4 := by kernel_rfl
@[simp] theorem Tryz.eqa8 (x0 y0 : Int) (x1 y1 : Int) (x2 y2 : Bool) (x3 y3 : Int) : EqA Tryz.prog 8 [.int .i64 x0, .int .i64 x1, .bool x2, .int .u8 x3] [.int .i64 y0, .int .i64 y1, .bool y2, .int .u8 y3] :=
  EqA_of (l := [.int .i64, .int .i64, .bool, .int .u8]) 6 (by kernel_rfl) (by kernel_rfl) (by kernel_rfl) (by kernel_rfl) (by omega) (by simp [LSS, SSh]) (by simp [LSS, SSh])
@[simp] theorem Tryz.cells9 : Tryz.prog.cellsOf 9 = 1 := by kernel_rfl
@[simp] theorem Tryz.bytes9 : Tryz.prog.bytesOf 9 = 16 := by kernel_rfl
@[simp] theorem Tryz.zc9 : zcells Tryz.prog 9 = some [.str ByteArray.empty] := by kernel_rfl
@[simp] theorem Tryz.zl9 : zlen Tryz.prog 9 = 1 := by kernel_rfl
@[simp] theorem Tryz.cells10 : Tryz.prog.cellsOf 10 = 1 := by kernel_rfl
@[simp] theorem Tryz.bytes10 : Tryz.prog.bytesOf 10 = 16 := by kernel_rfl
@[simp] theorem Tryz.zc10 : zcells Tryz.prog 10 = some [.str ByteArray.empty] := by kernel_rfl
@[simp] theorem Tryz.zl10 : zlen Tryz.prog 10 = 1 := by kernel_rfl
@[simp] theorem Tryz.cells11 : Tryz.prog.cellsOf 11 = 1 := by kernel_rfl
@[simp] theorem Tryz.bytes11 : Tryz.prog.bytesOf 11 = 16 := by kernel_rfl
@[simp] theorem Tryz.zc11 : zcells Tryz.prog 11 = some [.str ByteArray.empty] := by kernel_rfl
@[simp] theorem Tryz.zl11 : zlen Tryz.prog 11 = 1 := by kernel_rfl
@[simp] theorem Tryz.cells12 : Tryz.prog.cellsOf 12 = 1 := by kernel_rfl
@[simp] theorem Tryz.bytes12 : Tryz.prog.bytesOf 12 = 8 := by kernel_rfl
@[simp] theorem Tryz.zc12 : zcells Tryz.prog 12 = some [.int .u64 0] := by kernel_rfl
@[simp] theorem Tryz.zl12 : zlen Tryz.prog 12 = 1 := by kernel_rfl
@[simp] theorem Tryz.cells13 : Tryz.prog.cellsOf 13 = 2 := by kernel_rfl
@[simp] theorem Tryz.bytes13 : Tryz.prog.bytesOf 13 = 24 := by kernel_rfl
@[simp] theorem Tryz.zc13 : zcells Tryz.prog 13 = some [.str ByteArray.empty, .int .u64 0] := by kernel_rfl
@[simp] theorem Tryz.zl13 : zlen Tryz.prog 13 = 2 := by kernel_rfl
@[simp] theorem Tryz.cells14 : Tryz.prog.cellsOf 14 = 2 := by kernel_rfl
@[simp] theorem Tryz.bytes14 : Tryz.prog.bytesOf 14 = 24 := by kernel_rfl
@[simp] theorem Tryz.zc14 : zcells Tryz.prog 14 = some [.str ByteArray.empty, .int .u64 0] := by kernel_rfl
@[simp] theorem Tryz.zl14 : zlen Tryz.prog 14 = 2 := by kernel_rfl
@[simp] theorem Tryz.cells15 : Tryz.prog.cellsOf 15 = 1 := by kernel_rfl
@[simp] theorem Tryz.bytes15 : Tryz.prog.bytesOf 15 = 8 := by kernel_rfl
@[simp] theorem Tryz.zc15 : zcells Tryz.prog 15 = some [.nilp] := by kernel_rfl
@[simp] theorem Tryz.zl15 : zlen Tryz.prog 15 = 1 := by kernel_rfl
@[simp] theorem Tryz.cells16 : Tryz.prog.cellsOf 16 = 1 := by kernel_rfl
@[simp] theorem Tryz.bytes16 : Tryz.prog.bytesOf 16 = 8 := by kernel_rfl
@[simp] theorem Tryz.zc16 : zcells Tryz.prog 16 = some [.nilp] := by kernel_rfl
@[simp] theorem Tryz.zl16 : zlen Tryz.prog 16 = 1 := by kernel_rfl
@[simp] theorem Tryz.cells17 : Tryz.prog.cellsOf 17 = 1 := by kernel_rfl
@[simp] theorem Tryz.bytes17 : Tryz.prog.bytesOf 17 = 8 := by kernel_rfl
@[simp] theorem Tryz.zc17 : zcells Tryz.prog 17 = some [.nilp] := by kernel_rfl
@[simp] theorem Tryz.zl17 : zlen Tryz.prog 17 = 1 := by kernel_rfl
@[simp] theorem Tryz.cells18 : Tryz.prog.cellsOf 18 = 1 := by kernel_rfl
@[simp] theorem Tryz.bytes18 : Tryz.prog.bytesOf 18 = 8 := by kernel_rfl
@[simp] theorem Tryz.zc18 : zcells Tryz.prog 18 = some [.nilp] := by kernel_rfl
@[simp] theorem Tryz.zl18 : zlen Tryz.prog 18 = 1 := by kernel_rfl
@[simp] theorem Tryz.cells19 : Tryz.prog.cellsOf 19 = 1 := by kernel_rfl
@[simp] theorem Tryz.bytes19 : Tryz.prog.bytesOf 19 = 8 := by kernel_rfl
@[simp] theorem Tryz.zc19 : zcells Tryz.prog 19 = some [.nilp] := by kernel_rfl
@[simp] theorem Tryz.zl19 : zlen Tryz.prog 19 = 1 := by kernel_rfl
@[simp] theorem Tryz.cells20 : Tryz.prog.cellsOf 20 = 1 := by kernel_rfl
@[simp] theorem Tryz.bytes20 : Tryz.prog.bytesOf 20 = 16 := by kernel_rfl
@[simp] theorem Tryz.zc20 : zcells Tryz.prog 20 = some [.nilif] := by kernel_rfl
@[simp] theorem Tryz.zl20 : zlen Tryz.prog 20 = 1 := by kernel_rfl
@[simp] theorem Tryz.cells21 : Tryz.prog.cellsOf 21 = 1 := by kernel_rfl
@[simp] theorem Tryz.bytes21 : Tryz.prog.bytesOf 21 = 4 := by kernel_rfl
@[simp] theorem Tryz.zc21 : zcells Tryz.prog 21 = some [.int .i32 0] := by kernel_rfl
@[simp] theorem Tryz.zl21 : zlen Tryz.prog 21 = 1 := by kernel_rfl
@[simp] theorem Tryz.cells22 : Tryz.prog.cellsOf 22 = 1 := by kernel_rfl
@[simp] theorem Tryz.bytes22 : Tryz.prog.bytesOf 22 = 8 := by kernel_rfl
@[simp] theorem Tryz.zc22 : zcells Tryz.prog 22 = some [.int .u64 0] := by kernel_rfl
@[simp] theorem Tryz.zl22 : zlen Tryz.prog 22 = 1 := by kernel_rfl
@[simp] theorem Tryz.cells23 : Tryz.prog.cellsOf 23 = 2 := by kernel_rfl
@[simp] theorem Tryz.bytes23 : Tryz.prog.bytesOf 23 = 16 := by kernel_rfl
@[simp] theorem Tryz.zc23 : zcells Tryz.prog 23 = some [.int .u64 0, .int .u64 0] := by kernel_rfl
@[simp] theorem Tryz.zl23 : zlen Tryz.prog 23 = 2 := by kernel_rfl
@[simp] theorem Tryz.eqa23 (x0 y0 : Int) (x1 y1 : Int) : EqA Tryz.prog 23 [.int .u64 x0, .int .u64 x1] [.int .u64 y0, .int .u64 y1] :=
  EqA_of (l := [.int .u64, .int .u64]) 6 (by kernel_rfl) (by kernel_rfl) (by kernel_rfl) (by kernel_rfl) (by omega) (by simp [LSS, SSh]) (by simp [LSS, SSh])
@[simp] theorem Tryz.cells24 : Tryz.prog.cellsOf 24 = 2 := by kernel_rfl
@[simp] theorem Tryz.bytes24 : Tryz.prog.bytesOf 24 = 16 := by kernel_rfl
@[simp] theorem Tryz.zc24 : zcells Tryz.prog 24 = some [.int .u64 0, .int .u64 0] := by kernel_rfl
@[simp] theorem Tryz.zl24 : zlen Tryz.prog 24 = 2 := by kernel_rfl
@[simp] theorem Tryz.eqa24 (x0 y0 : Int) (x1 y1 : Int) : EqA Tryz.prog 24 [.int .u64 x0, .int .u64 x1] [.int .u64 y0, .int .u64 y1] :=
  EqA_of (l := [.int .u64, .int .u64]) 6 (by kernel_rfl) (by kernel_rfl) (by kernel_rfl) (by kernel_rfl) (by omega) (by simp [LSS, SSh]) (by simp [LSS, SSh])
@[simp] theorem Tryz.cells25 : Tryz.prog.cellsOf 25 = 4 := by kernel_rfl
@[simp] theorem Tryz.bytes25 : Tryz.prog.bytesOf 25 = 32 := by kernel_rfl
@[simp] theorem Tryz.zc25 : zcells Tryz.prog 25 = some [.int .u64 0, .int .u64 0, .int .u64 0, .int .u64 0] := by kernel_rfl
@[simp] theorem Tryz.zl25 : zlen Tryz.prog 25 = 4 := by kernel_rfl
@[simp] theorem Tryz.eqa25 (x0 y0 : Int) (x1 y1 : Int) (x2 y2 : Int) (x3 y3 : Int) : EqA Tryz.prog 25 [.int .u64 x0, .int .u64 x1, .int .u64 x2, .int .u64 x3] [.int .u64 y0, .int .u64 y1, .int .u64 y2, .int .u64 y3] :=
  EqA_of (l := [.int .u64, .int .u64, .int .u64, .int .u64]) 6 (by kernel_rfl) (by kernel_rfl) (by kernel_rfl) (by kernel_rfl) (by omega) (by simp [LSS, SSh]) (by simp [LSS, SSh])
@[simp] theorem Tryz.cells26 : Tryz.prog.cellsOf 26 = 4 := by kernel_rfl
@[simp] theorem Tryz.bytes26 : Tryz.prog.bytesOf 26 = 32 := by kernel_rfl
@[simp] theorem Tryz.zc26 : zcells Tryz.prog 26 = some [.int .u64 0, .int .u64 0, .int .u64 0, .int .u64 0] := by kernel_rfl
@[simp] theorem Tryz.zl26 : zlen Tryz.prog 26 = 4 := by kernel_rfl
@[simp] theorem Tryz.eqa26 (x0 y0 : Int) (x1 y1 : Int) (x2 y2 : Int) (x3 y3 : Int) : EqA Tryz.prog 26 [.int .u64 x0, .int .u64 x1, .int .u64 x2, .int .u64 x3] [.int .u64 y0, .int .u64 y1, .int .u64 y2, .int .u64 y3] :=
  EqA_of (l := [.int .u64, .int .u64, .int .u64, .int .u64]) 6 (by kernel_rfl) (by kernel_rfl) (by kernel_rfl) (by kernel_rfl) (by omega) (by simp [LSS, SSh]) (by simp [LSS, SSh])
@[simp] theorem Tryz.cells27 : Tryz.prog.cellsOf 27 = 1 := by kernel_rfl
@[simp] theorem Tryz.bytes27 : Tryz.prog.bytesOf 27 = 8 := by kernel_rfl
@[simp] theorem Tryz.zc27 : zcells Tryz.prog 27 = some [.int .i64 0] := by kernel_rfl
@[simp] theorem Tryz.zl27 : zlen Tryz.prog 27 = 1 := by kernel_rfl
@[simp] theorem Tryz.cells29 : Tryz.prog.cellsOf 29 = 1 := by kernel_rfl
@[simp] theorem Tryz.bytes29 : Tryz.prog.bytesOf 29 = 8 := by kernel_rfl
@[simp] theorem Tryz.zc29 : zcells Tryz.prog 29 = some [.nilfn] := by kernel_rfl
@[simp] theorem Tryz.zl29 : zlen Tryz.prog 29 = 1 := by kernel_rfl
@[simp] theorem Tryz.cells31 : Tryz.prog.cellsOf 31 = 1 := by kernel_rfl
@[simp] theorem Tryz.bytes31 : Tryz.prog.bytesOf 31 = 8 := by kernel_rfl
@[simp] theorem Tryz.zc31 : zcells Tryz.prog 31 = some [.nilfn] := by kernel_rfl
@[simp] theorem Tryz.zl31 : zlen Tryz.prog 31 = 1 := by kernel_rfl
@[simp] theorem Tryz.cells33 : Tryz.prog.cellsOf 33 = 1 := by kernel_rfl
@[simp] theorem Tryz.bytes33 : Tryz.prog.bytesOf 33 = 8 := by kernel_rfl
@[simp] theorem Tryz.zc33 : zcells Tryz.prog 33 = some [.nilfn] := by kernel_rfl
@[simp] theorem Tryz.zl33 : zlen Tryz.prog 33 = 1 := by kernel_rfl
@[simp] theorem Tryz.cells35 : Tryz.prog.cellsOf 35 = 1 := by kernel_rfl
@[simp] theorem Tryz.bytes35 : Tryz.prog.bytesOf 35 = 8 := by kernel_rfl
@[simp] theorem Tryz.zc35 : zcells Tryz.prog 35 = some [.nilfn] := by kernel_rfl
@[simp] theorem Tryz.zl35 : zlen Tryz.prog 35 = 1 := by kernel_rfl
@[simp] theorem Tryz.cells36 : Tryz.prog.cellsOf 36 = 1 := by kernel_rfl
@[simp] theorem Tryz.bytes36 : Tryz.prog.bytesOf 36 = 8 := by kernel_rfl
@[simp] theorem Tryz.zc36 : zcells Tryz.prog 36 = some [.nilfn] := by kernel_rfl
@[simp] theorem Tryz.zl36 : zlen Tryz.prog 36 = 1 := by kernel_rfl
@[simp] theorem Tryz.cells37 : Tryz.prog.cellsOf 37 = 1 := by kernel_rfl
@[simp] theorem Tryz.bytes37 : Tryz.prog.bytesOf 37 = 8 := by kernel_rfl
@[simp] theorem Tryz.zc37 : zcells Tryz.prog 37 = some [.nilfn] := by kernel_rfl
@[simp] theorem Tryz.zl37 : zlen Tryz.prog 37 = 1 := by kernel_rfl
@[simp] theorem Tryz.cells38 : Tryz.prog.cellsOf 38 = 4 := by kernel_rfl
@[simp] theorem Tryz.bytes38 : Tryz.prog.bytesOf 38 = 32 := by kernel_rfl
@[simp] theorem Tryz.zc38 : zcells Tryz.prog 38 = some [.int .u8 0, .int .u64 0, .int .u64 0, .int .i64 0] := by kernel_rfl
@[simp] theorem Tryz.zl38 : zlen Tryz.prog 38 = 4 := by kernel_rfl
@[simp] theorem Tryz.eqa38 (x0 y0 : Int) (x1 y1 : Int) (x2 y2 : Int) (x3 y3 : Int) : EqA Tryz.prog 38 [.int .u8 x0, .int .u64 x1, .int .u64 x2, .int .i64 x3] [.int .u8 y0, .int .u64 y1, .int .u64 y2, .int .i64 y3] :=
  EqA_of (l := [.int .u8, .int .u64, .int .u64, .int .i64]) 6 (by kernel_rfl) (by kernel_rfl) (by kernel_rfl) (by kernel_rfl) (by omega) (by simp [LSS, SSh]) (by simp [LSS, SSh])
@[simp] theorem Tryz.cells39 : Tryz.prog.cellsOf 39 = 4 := by kernel_rfl
@[simp] theorem Tryz.bytes39 : Tryz.prog.bytesOf 39 = 32 := by kernel_rfl
@[simp] theorem Tryz.zc39 : zcells Tryz.prog 39 = some [.int .u8 0, .int .u64 0, .int .u64 0, .int .i64 0] := by kernel_rfl
@[simp] theorem Tryz.zl39 : zlen Tryz.prog 39 = 4 := by kernel_rfl
@[simp] theorem Tryz.eqa39 (x0 y0 : Int) (x1 y1 : Int) (x2 y2 : Int) (x3 y3 : Int) : EqA Tryz.prog 39 [.int .u8 x0, .int .u64 x1, .int .u64 x2, .int .i64 x3] [.int .u8 y0, .int .u64 y1, .int .u64 y2, .int .i64 y3] :=
  EqA_of (l := [.int .u8, .int .u64, .int .u64, .int .i64]) 6 (by kernel_rfl) (by kernel_rfl) (by kernel_rfl) (by kernel_rfl) (by omega) (by simp [LSS, SSh]) (by simp [LSS, SSh])
@[simp] theorem Tryz.cells40 : Tryz.prog.cellsOf 40 = 1 := by kernel_rfl
@[simp] theorem Tryz.bytes40 : Tryz.prog.bytesOf 40 = 1 := by kernel_rfl
@[simp] theorem Tryz.zc40 : zcells Tryz.prog 40 = some [.int .u8 0] := by kernel_rfl
@[simp] theorem Tryz.zl40 : zlen Tryz.prog 40 = 1 := by kernel_rfl
@[simp] theorem Tryz.cells41 : Tryz.prog.cellsOf 41 = 5 := by kernel_rfl
@[simp] theorem Tryz.bytes41 : Tryz.prog.bytesOf 41 = 40 := by kernel_rfl
@[simp] theorem Tryz.zc41 : zcells Tryz.prog 41 = some [.int .u8 0, .int .u64 0, .int .u64 0, .int .u64 0, .int .u64 0] := by kernel_rfl
@[simp] theorem Tryz.zl41 : zlen Tryz.prog 41 = 5 := by kernel_rfl
@[simp] theorem Tryz.eqa41 (x0 y0 : Int) (x1 y1 : Int) (x2 y2 : Int) (x3 y3 : Int) (x4 y4 : Int) : EqA Tryz.prog 41 [.int .u8 x0, .int .u64 x1, .int .u64 x2, .int .u64 x3, .int .u64 x4] [.int .u8 y0, .int .u64 y1, .int .u64 y2, .int .u64 y3, .int .u64 y4] :=
  EqA_of (l := [.int .u8, .int .u64, .int .u64, .int .u64, .int .u64]) 6 (by kernel_rfl) (by kernel_rfl) (by kernel_rfl) (by kernel_rfl) (by omega) (by simp [LSS, SSh]) (by simp [LSS, SSh])
@[simp] theorem Tryz.cells42 : Tryz.prog.cellsOf 42 = 5 := by kernel_rfl
@[simp] theorem Tryz.bytes42 : Tryz.prog.bytesOf 42 = 40 := by kernel_rfl
@[simp] theorem Tryz.zc42 : zcells Tryz.prog 42 = some [.int .u8 0, .int .u64 0, .int .u64 0, .int .u64 0, .int .u64 0] := by kernel_rfl
@[simp] theorem Tryz.zl42 : zlen Tryz.prog 42 = 5 := by kernel_rfl
@[simp] theorem Tryz.eqa42 (x0 y0 : Int) (x1 y1 : Int) (x2 y2 : Int) (x3 y3 : Int) (x4 y4 : Int) : EqA Tryz.prog 42 [.int .u8 x0, .int .u64 x1, .int .u64 x2, .int .u64 x3, .int .u64 x4] [.int .u8 y0, .int .u64 y1, .int .u64 y2, .int .u64 y3, .int .u64 y4] :=
  EqA_of (l := [.int .u8, .int .u64, .int .u64, .int .u64, .int .u64]) 6 (by kernel_rfl) (by kernel_rfl) (by kernel_rfl) (by kernel_rfl) (by omega) (by simp [LSS, SSh]) (by simp [LSS, SSh])
@[simp] theorem Tryz.cells43 : Tryz.prog.cellsOf 43 = 1 := by kernel_rfl
@[simp] theorem Tryz.bytes43 : Tryz.prog.bytesOf 43 = 8 := by kernel_rfl
@[simp] theorem Tryz.zc43 : zcells Tryz.prog 43 = some [.nilfn] := by kernel_rfl
@[simp] theorem Tryz.zl43 : zlen Tryz.prog 43 = 1 := by kernel_rfl
@[simp] theorem Tryz.cells44 : Tryz.prog.cellsOf 44 = 1 := by kernel_rfl
@[simp] theorem Tryz.bytes44 : Tryz.prog.bytesOf 44 = 8 := by kernel_rfl
@[simp] theorem Tryz.zc44 : zcells Tryz.prog 44 = some [.nilfn] := by kernel_rfl
@[simp] theorem Tryz.zl44 : zlen Tryz.prog 44 = 1 := by kernel_rfl
@[simp] theorem Tryz.cells45 : Tryz.prog.cellsOf 45 = 1 := by kernel_rfl
@[simp] theorem Tryz.bytes45 : Tryz.prog.bytesOf 45 = 8 := by kernel_rfl
@[simp] theorem Tryz.zc45 : zcells Tryz.prog 45 = some [.nilfn] := by kernel_rfl
@[simp] theorem Tryz.zl45 : zlen Tryz.prog 45 = 1 := by kernel_rfl
@[simp] theorem Tryz.cells46 : Tryz.prog.cellsOf 46 = 1 := by kernel_rfl
@[simp] theorem Tryz.bytes46 : Tryz.prog.bytesOf 46 = 8 := by kernel_rfl
@[simp] theorem Tryz.zc46 : zcells Tryz.prog 46 = some [.nilfn] := by kernel_rfl
@[simp] theorem Tryz.zl46 : zlen Tryz.prog 46 = 1 := by kernel_rfl
@[simp] theorem Tryz.cells47 : Tryz.prog.cellsOf 47 = 1 := by kernel_rfl
@[simp] theorem Tryz.bytes47 : Tryz.prog.bytesOf 47 = 24 := by kernel_rfl
@[simp] theorem Tryz.zc47 : zcells Tryz.prog 47 = some [.nils] := by kernel_rfl
@[simp] theorem Tryz.zl47 : zlen Tryz.prog 47 = 1 := by kernel_rfl
@[simp] theorem Tryz.cells49 : Tryz.prog.cellsOf 49 = 1 := by kernel_rfl
@[simp] theorem Tryz.bytes49 : Tryz.prog.bytesOf 49 = 8 := by kernel_rfl
@[simp] theorem Tryz.zc49 : zcells Tryz.prog 49 = some [.nilfn] := by kernel_rfl
@[simp] theorem Tryz.zl49 : zlen Tryz.prog 49 = 1 := by kernel_rfl
@[simp] theorem Tryz.cells50 : Tryz.prog.cellsOf 50 = 1 := by kernel_rfl
@[simp] theorem Tryz.bytes50 : Tryz.prog.bytesOf 50 = 8 := by kernel_rfl
@[simp] theorem Tryz.zc50 : zcells Tryz.prog 50 = some [.nilfn] := by kernel_rfl
@[simp] theorem Tryz.zl50 : zlen Tryz.prog 50 = 1 := by kernel_rfl
@[simp] theorem Tryz.cells51 : Tryz.prog.cellsOf 51 = 1 := by kernel_rfl
@[simp] theorem Tryz.bytes51 : Tryz.prog.bytesOf 51 = 8 := by kernel_rfl
@[simp] theorem Tryz.zc51 : zcells Tryz.prog 51 = some [.nilfn] := by kernel_rfl
@[simp] theorem Tryz.zl51 : zlen Tryz.prog 51 = 1 := by kernel_rfl
@[simp] theorem Tryz.cells53 : Tryz.prog.cellsOf 53 = 1 := by kernel_rfl
@[simp] theorem Tryz.bytes53 : Tryz.prog.bytesOf 53 = 8 := by kernel_rfl
@[simp] theorem Tryz.zc53 : zcells Tryz.prog 53 = some [.nilfn] := by kernel_rfl
@[simp] theorem Tryz.zl53 : zlen Tryz.prog 53 = 1 := by kernel_rfl
@[simp] theorem Tryz.cells55 : Tryz.prog.cellsOf 55 = 1 := by kernel_rfl
@[simp] theorem Tryz.bytes55 : Tryz.prog.bytesOf 55 = 8 := by kernel_rfl
@[simp] theorem Tryz.zc55 : zcells Tryz.prog 55 = some [.nilfn] := by kernel_rfl
@[simp] theorem Tryz.zl55 : zlen Tryz.prog 55 = 1 := by kernel_rfl
@[simp] theorem Tryz.cells57 : Tryz.prog.cellsOf 57 = 1 := by kernel_rfl
@[simp] theorem Tryz.bytes57 : Tryz.prog.bytesOf 57 = 8 := by kernel_rfl
@[simp] theorem Tryz.zc57 : zcells Tryz.prog 57 = some [.nilfn] := by kernel_rfl
@[simp] theorem Tryz.zl57 : zlen Tryz.prog 57 = 1 := by kernel_rfl
@[simp] theorem Tryz.cells59 : Tryz.prog.cellsOf 59 = 1 := by kernel_rfl
@[simp] theorem Tryz.bytes59 : Tryz.prog.bytesOf 59 = 8 := by kernel_rfl
@[simp] theorem Tryz.zc59 : zcells Tryz.prog 59 = some [.nilfn] := by kernel_rfl
@[simp] theorem Tryz.zl59 : zlen Tryz.prog 59 = 1 := by kernel_rfl
@[simp] theorem Tryz.cells61 : Tryz.prog.cellsOf 61 = 1 := by kernel_rfl
@[simp] theorem Tryz.bytes61 : Tryz.prog.bytesOf 61 = 8 := by kernel_rfl
@[simp] theorem Tryz.zc61 : zcells Tryz.prog 61 = some [.nilfn] := by kernel_rfl
@[simp] theorem Tryz.zl61 : zlen Tryz.prog 61 = 1 := by kernel_rfl
@[simp] theorem Tryz.cells63 : Tryz.prog.cellsOf 63 = 1 := by kernel_rfl
@[simp] theorem Tryz.bytes63 : Tryz.prog.bytesOf 63 = 8 := by kernel_rfl
@[simp] theorem Tryz.zc63 : zcells Tryz.prog 63 = some [.nilfn] := by kernel_rfl
@[simp] theorem Tryz.zl63 : zlen Tryz.prog 63 = 1 := by kernel_rfl
@[simp] theorem Tryz.cells64 : Tryz.prog.cellsOf 64 = 1 := by kernel_rfl
@[simp] theorem Tryz.bytes64 : Tryz.prog.bytesOf 64 = 24 := by kernel_rfl
@[simp] theorem Tryz.zc64 : zcells Tryz.prog 64 = some [.nils] := by kernel_rfl
@[simp] theorem Tryz.zl64 : zlen Tryz.prog 64 = 1 := by kernel_rfl
@[simp] theorem Tryz.cells65 : Tryz.prog.cellsOf 65 = 1 := by kernel_rfl
@[simp] theorem Tryz.bytes65 : Tryz.prog.bytesOf 65 = 8 := by kernel_rfl
@[simp] theorem Tryz.zc65 : zcells Tryz.prog 65 = some [.nilfn] := by kernel_rfl
@[simp] theorem Tryz.zl65 : zlen Tryz.prog 65 = 1 := by kernel_rfl
@[simp] theorem Tryz.cells67 : Tryz.prog.cellsOf 67 = 1 := by kernel_rfl
@[simp] theorem Tryz.bytes67 : Tryz.prog.bytesOf 67 = 8 := by kernel_rfl
@[simp] theorem Tryz.zc67 : zcells Tryz.prog 67 = some [.nilfn] := by kernel_rfl
@[simp] theorem Tryz.zl67 : zlen Tryz.prog 67 = 1 := by kernel_rfl
@[simp] theorem Tryz.cells68 : Tryz.prog.cellsOf 68 = 1 := by kernel_rfl
@[simp] theorem Tryz.bytes68 : Tryz.prog.bytesOf 68 = 8 := by kernel_rfl
@[simp] theorem Tryz.zc68 : zcells Tryz.prog 68 = some [.nilfn] := by kernel_rfl
@[simp] theorem Tryz.zl68 : zlen Tryz.prog 68 = 1 := by kernel_rfl
@[simp] theorem Tryz.cells69 : Tryz.prog.cellsOf 69 = 1 := by kernel_rfl
@[simp] theorem Tryz.bytes69 : Tryz.prog.bytesOf 69 = 8 := by kernel_rfl
@[simp] theorem Tryz.zc69 : zcells Tryz.prog 69 = some [.nilfn] := by kernel_rfl
@[simp] theorem Tryz.zl69 : zlen Tryz.prog 69 = 1 := by kernel_rfl
@[simp] theorem Tryz.cells70 : Tryz.prog.cellsOf 70 = 1 := by kernel_rfl
@[simp] theorem Tryz.bytes70 : Tryz.prog.bytesOf 70 = 8 := by kernel_rfl
@[simp] theorem Tryz.zc70 : zcells Tryz.prog 70 = some [.nilfn] := by kernel_rfl
@[simp] theorem Tryz.zl70 : zlen Tryz.prog 70 = 1 := by kernel_rfl
@[simp] theorem Tryz.cells71 : Tryz.prog.cellsOf 71 = 1 := by kernel_rfl
@[simp] theorem Tryz.bytes71 : Tryz.prog.bytesOf 71 = 8 := by kernel_rfl
@[simp] theorem Tryz.zc71 : zcells Tryz.prog 71 = some [.nilfn] := by kernel_rfl
@[simp] theorem Tryz.zl71 : zlen Tryz.prog 71 = 1 := by kernel_rfl
@[simp] theorem Tryz.cells72 : Tryz.prog.cellsOf 72 = 1 := by kernel_rfl
@[simp] theorem Tryz.bytes72 : Tryz.prog.bytesOf 72 = 8 := by kernel_rfl
@[simp] theorem Tryz.zc72 : zcells Tryz.prog 72 = some [.nilfn] := by kernel_rfl
@[simp] theorem Tryz.zl72 : zlen Tryz.prog 72 = 1 := by kernel_rfl
@[simp] theorem Tryz.cells73 : Tryz.prog.cellsOf 73 = 1 := by kernel_rfl
@[simp] theorem Tryz.bytes73 : Tryz.prog.bytesOf 73 = 8 := by kernel_rfl
@[simp] theorem Tryz.zc73 : zcells Tryz.prog 73 = some [.nilfn] := by kernel_rfl
@[simp] theorem Tryz.zl73 : zlen Tryz.prog 73 = 1 := by kernel_rfl
@[simp] theorem Tryz.cells74 : Tryz.prog.cellsOf 74 = 1 := by kernel_rfl
@[simp] theorem Tryz.bytes74 : Tryz.prog.bytesOf 74 = 8 := by kernel_rfl
@[simp] theorem Tryz.zc74 : zcells Tryz.prog 74 = some [.nilfn] := by kernel_rfl
@[simp] theorem Tryz.zl74 : zlen Tryz.prog 74 = 1 := by kernel_rfl
@[simp] theorem Tryz.cells75 : Tryz.prog.cellsOf 75 = 1 := by kernel_rfl
@[simp] theorem Tryz.bytes75 : Tryz.prog.bytesOf 75 = 8 := by kernel_rfl
@[simp] theorem Tryz.zc75 : zcells Tryz.prog 75 = some [.nilfn] := by kernel_rfl
@[simp] theorem Tryz.zl75 : zlen Tryz.prog 75 = 1 := by kernel_rfl
@[simp] theorem Tryz.cells76 : Tryz.prog.cellsOf 76 = 1 := by kernel_rfl
@[simp] theorem Tryz.bytes76 : Tryz.prog.bytesOf 76 = 8 := by kernel_rfl
@[simp] theorem Tryz.zc76 : zcells Tryz.prog 76 = some [.nilfn] := by kernel_rfl
@[simp] theorem Tryz.zl76 : zlen Tryz.prog 76 = 1 := by kernel_rfl
@[simp] theorem Tryz.cells77 : Tryz.prog.cellsOf 77 = 1 := by kernel_rfl
@[simp] theorem Tryz.bytes77 : Tryz.prog.bytesOf 77 = 8 := by kernel_rfl
@[simp] theorem Tryz.zc77 : zcells Tryz.prog 77 = some [.nilfn] := by kernel_rfl
@[simp] theorem Tryz.zl77 : zlen Tryz.prog 77 = 1 := by kernel_rfl
@[simp] theorem Tryz.cells78 : Tryz.prog.cellsOf 78 = 1 := by kernel_rfl
@[simp] theorem Tryz.bytes78 : Tryz.prog.bytesOf 78 = 8 := by kernel_rfl
@[simp] theorem Tryz.zc78 : zcells Tryz.prog 78 = some [.nilfn] := by kernel_rfl
@[simp] theorem Tryz.zl78 : zlen Tryz.prog 78 = 1 := by kernel_rfl
@[simp] theorem Tryz.cells79 : Tryz.prog.cellsOf 79 = 1 := by kernel_rfl
@[simp] theorem Tryz.bytes79 : Tryz.prog.bytesOf 79 = 8 := by kernel_rfl
@[simp] theorem Tryz.zc79 : zcells Tryz.prog 79 = some [.nilfn] := by kernel_rfl
@[simp] theorem Tryz.zl79 : zlen Tryz.prog 79 = 1 := by kernel_rfl
@[simp] theorem Tryz.cells80 : Tryz.prog.cellsOf 80 = 1 := by kernel_rfl
@[simp] theorem Tryz.bytes80 : Tryz.prog.bytesOf 80 = 8 := by kernel_rfl
@[simp] theorem Tryz.zc80 : zcells Tryz.prog 80 = some [.nilfn] := by kernel_rfl
@[simp] theorem Tryz.zl80 : zlen Tryz.prog 80 = 1 := by kernel_rfl
@[simp] theorem Tryz.cells81 : Tryz.prog.cellsOf 81 = 1 := by kernel_rfl
@[simp] theorem Tryz.bytes81 : Tryz.prog.bytesOf 81 = 24 := by kernel_rfl
@[simp] theorem Tryz.zc81 : zcells Tryz.prog 81 = some [.nils] := by kernel_rfl
@[simp] theorem Tryz.zl81 : zlen Tryz.prog 81 = 1 := by kernel_rfl
@[simp] theorem Tryz.cells82 : Tryz.prog.cellsOf 82 = 1 := by kernel_rfl
@[simp] theorem Tryz.bytes82 : Tryz.prog.bytesOf 82 = 8 := by kernel_rfl
@[simp] theorem Tryz.zc82 : zcells Tryz.prog 82 = some [.nilfn] := by kernel_rfl
@[simp] theorem Tryz.zl82 : zlen Tryz.prog 82 = 1 := by kernel_rfl
@[simp] theorem Tryz.cells83 : Tryz.prog.cellsOf 83 = 1 := by kernel_rfl
@[simp] theorem Tryz.bytes83 : Tryz.prog.bytesOf 83 = 8 := by kernel_rfl
@[simp] theorem Tryz.zc83 : zcells Tryz.prog 83 = some [.nilfn] := by kernel_rfl
@[simp] theorem Tryz.zl83 : zlen Tryz.prog 83 = 1 := by kernel_rfl
@[simp] theorem Tryz.cells84 : Tryz.prog.cellsOf 84 = 1 := by kernel_rfl
@[simp] theorem Tryz.bytes84 : Tryz.prog.bytesOf 84 = 24 := by kernel_rfl
@[simp] theorem Tryz.zc84 : zcells Tryz.prog 84 = some [.nils] := by kernel_rfl
@[simp] theorem Tryz.zl84 : zlen Tryz.prog 84 = 1 := by kernel_rfl
@[simp] theorem Tryz.cells85 : Tryz.prog.cellsOf 85 = 1 := by kernel_rfl
@[simp] theorem Tryz.bytes85 : Tryz.prog.bytesOf 85 = 8 := by kernel_rfl
@[simp] theorem Tryz.zc85 : zcells Tryz.prog 85 = some [.nilfn] := by kernel_rfl
@[simp] theorem Tryz.zl85 : zlen Tryz.prog 85 = 1 := by kernel_rfl
@[simp] theorem Tryz.cells86 : Tryz.prog.cellsOf 86 = 1 := by kernel_rfl
@[simp] theorem Tryz.bytes86 : Tryz.prog.bytesOf 86 = 16 := by kernel_rfl
@[simp] theorem Tryz.zc86 : zcells Tryz.prog 86 = some [.nilif] := by kernel_rfl
@[simp] theorem Tryz.zl86 : zlen Tryz.prog 86 = 1 := by kernel_rfl
@[simp] theorem Tryz.cells87 : Tryz.prog.cellsOf 87 = 1 := by kernel_rfl
@[simp] theorem Tryz.bytes87 : Tryz.prog.bytesOf 87 = 16 := by kernel_rfl
@[simp] theorem Tryz.zc87 : zcells Tryz.prog 87 = some [.nilif] := by kernel_rfl
@[simp] theorem Tryz.zl87 : zlen Tryz.prog 87 = 1 := by kernel_rfl
@[simp] theorem Tryz.cells89 : Tryz.prog.cellsOf 89 = 1 := by kernel_rfl
@[simp] theorem Tryz.bytes89 : Tryz.prog.bytesOf 89 = 8 := by kernel_rfl
@[simp] theorem Tryz.zc89 : zcells Tryz.prog 89 = some [.nilfn] := by kernel_rfl
@[simp] theorem Tryz.zl89 : zlen Tryz.prog 89 = 1 := by kernel_rfl
@[simp] theorem Tryz.cells90 : Tryz.prog.cellsOf 90 = 1 := by kernel_rfl
@[simp] theorem Tryz.bytes90 : Tryz.prog.bytesOf 90 = 8 := by kernel_rfl
@[simp] theorem Tryz.zc90 : zcells Tryz.prog 90 = some [.nilfn] := by kernel_rfl
@[simp] theorem Tryz.zl90 : zlen Tryz.prog 90 = 1 := by kernel_rfl
@[simp] theorem Tryz.cells91 : Tryz.prog.cellsOf 91 = 1 := by kernel_rfl
@[simp] theorem Tryz.bytes91 : Tryz.prog.bytesOf 91 = 8 := by kernel_rfl
@[simp] theorem Tryz.zc91 : zcells Tryz.prog 91 = some [.nilfn] := by kernel_rfl
@[simp] theorem Tryz.zl91 : zlen Tryz.prog 91 = 1 := by kernel_rfl
@[simp] theorem Tryz.cells93 : Tryz.prog.cellsOf 93 = 1 := by kernel_rfl
@[simp] theorem Tryz.bytes93 : Tryz.prog.bytesOf 93 = 8 := by kernel_rfl
@[simp] theorem Tryz.zc93 : zcells Tryz.prog 93 = some [.nilfn] := by kernel_rfl
@[simp] theorem Tryz.zl93 : zlen Tryz.prog 93 = 1 := by kernel_rfl
@[simp] theorem Tryz.cells95 : Tryz.prog.cellsOf 95 = 1 := by kernel_rfl
@[simp] theorem Tryz.bytes95 : Tryz.prog.bytesOf 95 = 8 := by kernel_rfl
@[simp] theorem Tryz.zc95 : zcells Tryz.prog 95 = some [.nilfn] := by kernel_rfl
@[simp] theorem Tryz.zl95 : zlen Tryz.prog 95 = 1 := by kernel_rfl
@[simp] theorem Tryz.cells96 : Tryz.prog.cellsOf 96 = 1 := by kernel_rfl
@[simp] theorem Tryz.bytes96 : Tryz.prog.bytesOf 96 = 8 := by kernel_rfl
@[simp] theorem Tryz.zc96 : zcells Tryz.prog 96 = some [.nilfn] := by kernel_rfl
@[simp] theorem Tryz.zl96 : zlen Tryz.prog 96 = 1 := by kernel_rfl
@[simp] theorem Tryz.cells97 : Tryz.prog.cellsOf 97 = 1 := by kernel_rfl
@[simp] theorem Tryz.bytes97 : Tryz.prog.bytesOf 97 = 8 := by kernel_rfl
@[simp] theorem Tryz.zc97 : zcells Tryz.prog 97 = some [.nilfn] := by kernel_rfl
@[simp] theorem Tryz.zl97 : zlen Tryz.prog 97 = 1 := by kernel_rfl
@[simp] theorem Tryz.cells98 : Tryz.prog.cellsOf 98 = 1 := by kernel_rfl
@[simp] theorem Tryz.bytes98 : Tryz.prog.bytesOf 98 = 8 := by kernel_rfl
@[simp] theorem Tryz.zc98 : zcells Tryz.prog 98 = some [.nilfn] := by kernel_rfl
@[simp] theorem Tryz.zl98 : zlen Tryz.prog 98 = 1 := by kernel_rfl
@[simp] theorem Tryz.cells99 : Tryz.prog.cellsOf 99 = 1 := by kernel_rfl
@[simp] theorem Tryz.bytes99 : Tryz.prog.bytesOf 99 = 8 := by kernel_rfl
@[simp] theorem Tryz.zc99 : zcells Tryz.prog 99 = some [.nilfn] := by kernel_rfl
@[simp] theorem Tryz.zl99 : zlen Tryz.prog 99 = 1 := by kernel_rfl
@[simp] theorem Tryz.cells100 : Tryz.prog.cellsOf 100 = 8 := by kernel_rfl
@[simp] theorem Tryz.bytes100 : Tryz.prog.bytesOf 100 = 64 := by kernel_rfl
@[simp] theorem Tryz.zc100 : zcells Tryz.prog 100 = some [.int .u64 0, .int .u64 0, .int .u64 0, .int .u64 0, .int .u64 0, .int .u64 0, .int .u64 0, .int .u64 0] := by kernel_rfl
@[simp] theorem Tryz.zl100 : zlen Tryz.prog 100 = 8 := by kernel_rfl
@[simp] theorem Tryz.eqa100 (x0 y0 : Int) (x1 y1 : Int) (x2 y2 : Int) (x3 y3 : Int) (x4 y4 : Int) (x5 y5 : Int) (x6 y6 : Int) (x7 y7 : Int) : EqA Tryz.prog 100 [.int .u64 x0, .int .u64 x1, .int .u64 x2, .int .u64 x3, .int .u64 x4, .int .u64 x5, .int .u64 x6, .int .u64 x7] [.int .u64 y0, .int .u64 y1, .int .u64 y2, .int .u64 y3, .int .u64 y4, .int .u64 y5, .int .u64 y6, .int .u64 y7] :=
  EqA_of (l := [.int .u64, .int .u64, .int .u64, .int .u64, .int .u64, .int .u64, .int .u64, .int .u64]) 6 (by kernel_rfl) (by kernel_rfl) (by kernel_rfl) (by kernel_rfl) (by omega) (by simp [LSS, SSh]) (by simp [LSS, SSh])
@[simp] theorem Tryz.cells101 : Tryz.prog.cellsOf 101 = 1 := by kernel_rfl
@[simp] theorem Tryz.bytes101 : Tryz.prog.bytesOf 101 = 8 := by kernel_rfl
@[simp] theorem Tryz.zc101 : zcells Tryz.prog 101 = some [.nilfn] := by kernel_rfl
@[simp] theorem Tryz.zl101 : zlen Tryz.prog 101 = 1 := by kernel_rfl
@[simp] theorem Tryz.cells102 : Tryz.prog.cellsOf 102 = 1 := by kernel_rfl
@[simp] theorem Tryz.bytes102 : Tryz.prog.bytesOf 102 = 8 := by kernel_rfl
@[simp] theorem Tryz.zc102 : zcells Tryz.prog 102 = some [.nilfn] := by kernel_rfl
@[simp] theorem Tryz.zl102 : zlen Tryz.prog 102 = 1 := by kernel_rfl
@[simp] theorem Tryz.cells103 : Tryz.prog.cellsOf 103 = 1 := by kernel_rfl
@[simp] theorem Tryz.bytes103 : Tryz.prog.bytesOf 103 = 8 := by kernel_rfl
@[simp] theorem Tryz.zc103 : zcells Tryz.prog 103 = some [.nilp] := by kernel_rfl
@[simp] theorem Tryz.zl103 : zlen Tryz.prog 103 = 1 := by kernel_rfl
@[simp] theorem Tryz.cells104 : Tryz.prog.cellsOf 104 = 1 := by kernel_rfl
@[simp] theorem Tryz.bytes104 : Tryz.prog.bytesOf 104 = 24 := by kernel_rfl
@[simp] theorem Tryz.zc104 : zcells Tryz.prog 104 = some [.nils] := by kernel_rfl
@[simp] theorem Tryz.zl104 : zlen Tryz.prog 104 = 1 := by kernel_rfl
@[simp] theorem Tryz.cells105 : Tryz.prog.cellsOf 105 = 2 := by kernel_rfl
@[simp] theorem Tryz.bytes105 : Tryz.prog.bytesOf 105 = 32 := by kernel_rfl
@[simp] theorem Tryz.zc105 : zcells Tryz.prog 105 = some [.nilp, .nils] := by kernel_rfl
@[simp] theorem Tryz.zl105 : zlen Tryz.prog 105 = 2 := by kernel_rfl
@[simp] theorem Tryz.cells106 : Tryz.prog.cellsOf 106 = 2 := by kernel_rfl
@[simp] theorem Tryz.bytes106 : Tryz.prog.bytesOf 106 = 32 := by kernel_rfl
@[simp] theorem Tryz.zc106 : zcells Tryz.prog 106 = some [.nilp, .nils] := by kernel_rfl
@[simp] theorem Tryz.zl106 : zlen Tryz.prog 106 = 2 := by kernel_rfl
@[simp] theorem Tryz.cells107 : Tryz.prog.cellsOf 107 = 1 := by kernel_rfl
@[simp] theorem Tryz.bytes107 : Tryz.prog.bytesOf 107 = 8 := by kernel_rfl
@[simp] theorem Tryz.zc107 : zcells Tryz.prog 107 = some [.nilfn] := by kernel_rfl
@[simp] theorem Tryz.zl107 : zlen Tryz.prog 107 = 1 := by kernel_rfl
@[simp] theorem Tryz.cells109 : Tryz.prog.cellsOf 109 = 1 := by kernel_rfl
@[simp] theorem Tryz.bytes109 : Tryz.prog.bytesOf 109 = 8 := by kernel_rfl
@[simp] theorem Tryz.zc109 : zcells Tryz.prog 109 = some [.nilfn] := by kernel_rfl
@[simp] theorem Tryz.zl109 : zlen Tryz.prog 109 = 1 := by kernel_rfl
@[simp] theorem Tryz.cells110 : Tryz.prog.cellsOf 110 = 1 := by kernel_rfl
@[simp] theorem Tryz.bytes110 : Tryz.prog.bytesOf 110 = 8 := by kernel_rfl
@[simp] theorem Tryz.zc110 : zcells Tryz.prog 110 = some [.nilfn] := by kernel_rfl
@[simp] theorem Tryz.zl110 : zlen Tryz.prog 110 = 1 := by kernel_rfl
@[simp] theorem Tryz.cells111 : Tryz.prog.cellsOf 111 = 1 := by kernel_rfl
@[simp] theorem Tryz.bytes111 : Tryz.prog.bytesOf 111 = 8 := by kernel_rfl
@[simp] theorem Tryz.zc111 : zcells Tryz.prog 111 = some [.nilfn] := by kernel_rfl
@[simp] theorem Tryz.zl111 : zlen Tryz.prog 111 = 1 := by kernel_rfl
@[simp] theorem Tryz.cells112 : Tryz.prog.cellsOf 112 = 1 := by kernel_rfl
@[simp] theorem Tryz.bytes112 : Tryz.prog.bytesOf 112 = 8 := by kernel_rfl
@[simp] theorem Tryz.zc112 : zcells Tryz.prog 112 = some [.nilfn] := by kernel_rfl
@[simp] theorem Tryz.zl112 : zlen Tryz.prog 112 = 1 := by kernel_rfl
@[simp] theorem Tryz.cells113 : Tryz.prog.cellsOf 113 = 1 := by kernel_rfl
@[simp] theorem Tryz.bytes113 : Tryz.prog.bytesOf 113 = 8 := by kernel_rfl
@[simp] theorem Tryz.zc113 : zcells Tryz.prog 113 = some [.nilfn] := by kernel_rfl
@[simp] theorem Tryz.zl113 : zlen Tryz.prog 113 = 1 := by kernel_rfl
@[simp] theorem Tryz.cells114 : Tryz.prog.cellsOf 114 = 1 := by kernel_rfl
@[simp] theorem Tryz.bytes114 : Tryz.prog.bytesOf 114 = 8 := by kernel_rfl
@[simp] theorem Tryz.zc114 : zcells Tryz.prog 114 = some [.nilfn] := by kernel_rfl
@[simp] theorem Tryz.zl114 : zlen Tryz.prog 114 = 1 := by kernel_rfl
@[simp] theorem Tryz.cells115 : Tryz.prog.cellsOf 115 = 1 := by kernel_rfl
@[simp] theorem Tryz.bytes115 : Tryz.prog.bytesOf 115 = 8 := by kernel_rfl
@[simp] theorem Tryz.zc115 : zcells Tryz.prog 115 = some [.nilfn] := by kernel_rfl
@[simp] theorem Tryz.zl115 : zlen Tryz.prog 115 = 1 := by kernel_rfl
@[simp] theorem Tryz.cells116 : Tryz.prog.cellsOf 116 = 1 := by kernel_rfl
@[simp] theorem Tryz.bytes116 : Tryz.prog.bytesOf 116 = 8 := by kernel_rfl
@[simp] theorem Tryz.zc116 : zcells Tryz.prog 116 = some [.nilfn] := by kernel_rfl
@[simp] theorem Tryz.zl116 : zlen Tryz.prog 116 = 1 := by kernel_rfl
@[simp] theorem Tryz.cells117 : Tryz.prog.cellsOf 117 = 1 := by kernel_rfl
@[simp] theorem Tryz.bytes117 : Tryz.prog.bytesOf 117 = 8 := by kernel_rfl
@[simp] theorem Tryz.zc117 : zcells Tryz.prog 117 = some [.nilfn] := by kernel_rfl
@[simp] theorem Tryz.zl117 : zlen Tryz.prog 117 = 1 := by kernel_rfl
@[simp] theorem Tryz.cells118 : Tryz.prog.cellsOf 118 = 1 := by kernel_rfl
@[simp] theorem Tryz.bytes118 : Tryz.prog.bytesOf 118 = 8 := by kernel_rfl
@[simp] theorem Tryz.zc118 : zcells Tryz.prog 118 = some [.nilfn] := by kernel_rfl
@[simp] theorem Tryz.zl118 : zlen Tryz.prog 118 = 1 := by kernel_rfl
@[simp] theorem Tryz.cells119 : Tryz.prog.cellsOf 119 = 1 := by kernel_rfl
@[simp] theorem Tryz.bytes119 : Tryz.prog.bytesOf 119 = 8 := by kernel_rfl
@[simp] theorem Tryz.zc119 : zcells Tryz.prog 119 = some [.int .u64 0] := by kernel_rfl
@[simp] theorem Tryz.zl119 : zlen Tryz.prog 119 = 1 := by kernel_rfl
@[simp] theorem Tryz.cells120 : Tryz.prog.cellsOf 120 = 1 := by kernel_rfl
@[simp] theorem Tryz.bytes120 : Tryz.prog.bytesOf 120 = 8 := by kernel_rfl
@[simp] theorem Tryz.zc120 : zcells Tryz.prog 120 = some [.nilfn] := by kernel_rfl
@[simp] theorem Tryz.zl120 : zlen Tryz.prog 120 = 1 := by kernel_rfl
@[simp] theorem Tryz.cells121 : Tryz.prog.cellsOf 121 = 1 := by kernel_rfl
@[simp] theorem Tryz.bytes121 : Tryz.prog.bytesOf 121 = 8 := by kernel_rfl
@[simp] theorem Tryz.zc121 : zcells Tryz.prog 121 = some [.nilfn] := by kernel_rfl
@[simp] theorem Tryz.zl121 : zlen Tryz.prog 121 = 1 := by kernel_rfl
@[simp] theorem Tryz.cells122 : Tryz.prog.cellsOf 122 = 1 := by kernel_rfl
@[simp] theorem Tryz.bytes122 : Tryz.prog.bytesOf 122 = 8 := by kernel_rfl
@[simp] theorem Tryz.zc122 : zcells Tryz.prog 122 = some [.nilfn] := by kernel_rfl
@[simp] theorem Tryz.zl122 : zlen Tryz.prog 122 = 1 := by kernel_rfl
@[simp] theorem Tryz.cells123 : Tryz.prog.cellsOf 123 = 1 := by kernel_rfl
@[simp] theorem Tryz.bytes123 : Tryz.prog.bytesOf 123 = 8 := by kernel_rfl
@[simp] theorem Tryz.zc123 : zcells Tryz.prog 123 = some [.nilfn] := by kernel_rfl
@[simp] theorem Tryz.zl123 : zlen Tryz.prog 123 = 1 := by kernel_rfl
@[simp] theorem Tryz.cells124 : Tryz.prog.cellsOf 124 = 1 := by kernel_rfl
@[simp] theorem Tryz.bytes124 : Tryz.prog.bytesOf 124 = 8 := by kernel_rfl
@[simp] theorem Tryz.zc124 : zcells Tryz.prog 124 = some [.nilfn] := by kernel_rfl
@[simp] theorem Tryz.zl124 : zlen Tryz.prog 124 = 1 := by kernel_rfl
@[simp] theorem Tryz.cells125 : Tryz.prog.cellsOf 125 = 1 := by kernel_rfl
@[simp] theorem Tryz.bytes125 : Tryz.prog.bytesOf 125 = 8 := by kernel_rfl
@[simp] theorem Tryz.zc125 : zcells Tryz.prog 125 = some [.nilfn] := by kernel_rfl
@[simp] theorem Tryz.zl125 : zlen Tryz.prog 125 = 1 := by kernel_rfl
@[simp] theorem Tryz.cells126 : Tryz.prog.cellsOf 126 = 24 := by kernel_rfl
@[simp] theorem Tryz.bytes126 : Tryz.prog.bytesOf 126 = 24 := by kernel_rfl
@[simp] theorem Tryz.zc126 : zcells Tryz.prog 126 = some [.int .u8 0, .int .u8 0, .int .u8 0, .int .u8 0, .int .u8 0, .int .u8 0, .int .u8 0, .int .u8 0, .int .u8 0, .int .u8 0, .int .u8 0, .int .u8 0, .int .u8 0, .int .u8 0, .int .u8 0, .int .u8 0, .int .u8 0, .int .u8 0, .int .u8 0, .int .u8 0, .int .u8 0, .int .u8 0, .int .u8 0, .int .u8 0] := by kernel_rfl
@[simp] theorem Tryz.zl126 : zlen Tryz.prog 126 = 24 := by kernel_rfl
@[simp] theorem Tryz.cells127 : Tryz.prog.cellsOf 127 = 1 := by kernel_rfl
@[simp] theorem Tryz.bytes127 : Tryz.prog.bytesOf 127 = 8 := by kernel_rfl
@[simp] theorem Tryz.zc127 : zcells Tryz.prog 127 = some [.nilfn] := by kernel_rfl
@[simp] theorem Tryz.zl127 : zlen Tryz.prog 127 = 1 := by kernel_rfl
@[simp] theorem Tryz.cells128 : Tryz.prog.cellsOf 128 = 1 := by kernel_rfl
@[simp] theorem Tryz.bytes128 : Tryz.prog.bytesOf 128 = 8 := by kernel_rfl
@[simp] theorem Tryz.zc128 : zcells Tryz.prog 128 = some [.nilfn] := by kernel_rfl
@[simp] theorem Tryz.zl128 : zlen Tryz.prog 128 = 1 := by kernel_rfl
@[simp] theorem Tryz.cells130 : Tryz.prog.cellsOf 130 = 1 := by kernel_rfl
@[simp] theorem Tryz.bytes130 : Tryz.prog.bytesOf 130 = 8 := by kernel_rfl
@[simp] theorem Tryz.zc130 : zcells Tryz.prog 130 = some [.nilfn] := by kernel_rfl
@[simp] theorem Tryz.zl130 : zlen Tryz.prog 130 = 1 := by kernel_rfl
@[simp] theorem Tryz.cells131 : Tryz.prog.cellsOf 131 = 1 := by kernel_rfl
@[simp] theorem Tryz.bytes131 : Tryz.prog.bytesOf 131 = 8 := by kernel_rfl
@[simp] theorem Tryz.zc131 : zcells Tryz.prog 131 = some [.nilp] := by kernel_rfl
@[simp] theorem Tryz.zl131 : zlen Tryz.prog 131 = 1 := by kernel_rfl
@[simp] theorem Tryz.cells132 : Tryz.prog.cellsOf 132 = 1 := by kernel_rfl
@[simp] theorem Tryz.bytes132 : Tryz.prog.bytesOf 132 = 8 := by kernel_rfl
@[simp] theorem Tryz.zc132 : zcells Tryz.prog 132 = some [.int .i64 0] := by kernel_rfl
@[simp] theorem Tryz.zl132 : zlen Tryz.prog 132 = 1 := by kernel_rfl
@[simp] theorem Tryz.cells133 : Tryz.prog.cellsOf 133 = 1 := by kernel_rfl
@[simp] theorem Tryz.bytes133 : Tryz.prog.bytesOf 133 = 8 := by kernel_rfl
@[simp] theorem Tryz.zc133 : zcells Tryz.prog 133 = some [.nilfn] := by kernel_rfl
@[simp] theorem Tryz.zl133 : zlen Tryz.prog 133 = 1 := by kernel_rfl
@[simp] theorem Tryz.cells134 : Tryz.prog.cellsOf 134 = 1 := by kernel_rfl
@[simp] theorem Tryz.bytes134 : Tryz.prog.bytesOf 134 = 8 := by kernel_rfl
@[simp] theorem Tryz.zc134 : zcells Tryz.prog 134 = some [.nilfn] := by kernel_rfl
@[simp] theorem Tryz.zl134 : zlen Tryz.prog 134 = 1 := by kernel_rfl
@[simp] theorem Tryz.cells135 : Tryz.prog.cellsOf 135 = 1 := by kernel_rfl
@[simp] theorem Tryz.bytes135 : Tryz.prog.bytesOf 135 = 8 := by kernel_rfl
@[simp] theorem Tryz.zc135 : zcells Tryz.prog 135 = some [.nilp] := by kernel_rfl
@[simp] theorem Tryz.zl135 : zlen Tryz.prog 135 = 1 := by kernel_rfl
@[simp] theorem Tryz.cells136 : Tryz.prog.cellsOf 136 = 1 := by kernel_rfl
@[simp] theorem Tryz.bytes136 : Tryz.prog.bytesOf 136 = 8 := by kernel_rfl
@[simp] theorem Tryz.zc136 : zcells Tryz.prog 136 = some [.nilfn] := by kernel_rfl
@[simp] theorem Tryz.zl136 : zlen Tryz.prog 136 = 1 := by kernel_rfl
@[simp] theorem Tryz.cells137 : Tryz.prog.cellsOf 137 = 1 := by kernel_rfl
@[simp] theorem Tryz.bytes137 : Tryz.prog.bytesOf 137 = 8 := by kernel_rfl
@[simp] theorem Tryz.zc137 : zcells Tryz.prog 137 = some [.nilfn] := by kernel_rfl
@[simp] theorem Tryz.zl137 : zlen Tryz.prog 137 = 1 := by kernel_rfl
@[simp] theorem Tryz.cells138 : Tryz.prog.cellsOf 138 = 1 := by kernel_rfl
@[simp] theorem Tryz.bytes138 : Tryz.prog.bytesOf 138 = 8 := by kernel_rfl
@[simp] theorem Tryz.zc138 : zcells Tryz.prog 138 = some [.nilfn] := by kernel_rfl
@[simp] theorem Tryz.zl138 : zlen Tryz.prog 138 = 1 := by kernel_rfl
@[simp] theorem Tryz.cells139 : Tryz.prog.cellsOf 139 = 1 := by kernel_rfl
@[simp] theorem Tryz.bytes139 : Tryz.prog.bytesOf 139 = 8 := by kernel_rfl
@[simp] theorem Tryz.zc139 : zcells Tryz.prog 139 = some [.nilfn] := by kernel_rfl
@[simp] theorem Tryz.zl139 : zlen Tryz.prog 139 = 1 := by kernel_rfl
@[simp] theorem Tryz.cells140 : Tryz.prog.cellsOf 140 = 1 := by kernel_rfl
@[simp] theorem Tryz.bytes140 : Tryz.prog.bytesOf 140 = 8 := by kernel_rfl
@[simp] theorem Tryz.zc140 : zcells Tryz.prog 140 = some [.nilfn] := by kernel_rfl
@[simp] theorem Tryz.zl140 : zlen Tryz.prog 140 = 1 := by kernel_rfl
@[simp] theorem Tryz.cells141 : Tryz.prog.cellsOf 141 = 20 := by kernel_rfl
@[simp] theorem Tryz.bytes141 : Tryz.prog.bytesOf 141 = 160 := by kernel_rfl
@[simp] theorem Tryz.zc141 : zcells Tryz.prog 141 = some [.int .u64 0, .int .u64 0, .int .u64 0, .int .u64 0, .int .u64 0, .int .u64 0, .int .u64 0, .int .u64 0, .int .u64 0, .int .u64 0, .int .u64 0, .int .u64 0, .int .u64 0, .int .u64 0, .int .u64 0, .int .u64 0, .int .u64 0, .int .u64 0, .int .u64 0, .int .u64 0] := by kernel_rfl
@[simp] theorem Tryz.zl141 : zlen Tryz.prog 141 = 20 := by kernel_rfl
@[simp] theorem Tryz.cells142 : Tryz.prog.cellsOf 142 = 1 := by kernel_rfl
@[simp] theorem Tryz.bytes142 : Tryz.prog.bytesOf 142 = 4 := by kernel_rfl
@[simp] theorem Tryz.zc142 : zcells Tryz.prog 142 = some [.int .u32 0] := by kernel_rfl
@[simp] theorem Tryz.zl142 : zlen Tryz.prog 142 = 1 := by kernel_rfl
@[simp] theorem Tryz.cells143 : Tryz.prog.cellsOf 143 = 65 := by kernel_rfl
@[simp] theorem Tryz.bytes143 : Tryz.prog.bytesOf 143 = 65 := by kernel_rfl
@[simp] theorem Tryz.zc143 : zcells Tryz.prog 143 = some [.int .u8 0, .int .u8 0, .int .u8 0, .int .u8 0, .int .u8 0, .int .u8 0, .int .u8 0, .int .u8 0, .int .u8 0, .int .u8 0, .int .u8 0, .int .u8 0, .int .u8 0, .int .u8 0, .int .u8 0, .int .u8 0, .int .u8 0, .int .u8 0, .int .u8 0, .int .u8 0, .int .u8 0, .int .u8 0, .int .u8 0, .int .u8 0, .int .u8 0, .int .u8 0, .int .u8 0, .int .u8 0, .int .u8 0, .int .u8 0, .int .u8 0, .int .u8 0, .int .u8 0, .int .u8 0, .int .u8 0, .int .u8 0, .int .u8 0, .int .u8 0, .int .u8 0, .int .u8 0, .int .u8 0, .int .u8 0, .int .u8 0, .int .u8 0, .int .u8 0, .int .u8 0, .int .u8 0, .int .u8 0, .int .u8 0, .int .u8 0, .int .u8 0, .int .u8 0, .int .u8 0, .int .u8 0, .int .u8 0, .int .u8 0, .int .u8 0, .int .u8 0, .int .u8 0, .int .u8 0, .int .u8 0, .int .u8 0, .int .u8 0, .int .u8 0, .int .u8 0] := by kernel_rfl
@[simp] theorem Tryz.zl143 : zlen Tryz.prog 143 = 65 := by kernel_rfl
@[simp] theorem Tryz.cells144 : Tryz.prog.cellsOf 144 = 1 := by kernel_rfl
@[simp] theorem Tryz.bytes144 : Tryz.prog.bytesOf 144 = 8 := by kernel_rfl
@[simp] theorem Tryz.zc144 : zcells Tryz.prog 144 = some [.nilfn] := by kernel_rfl
@[simp] theorem Tryz.zl144 : zlen Tryz.prog 144 = 1 := by kernel_rfl
@[simp] theorem Tryz.cells145 : Tryz.prog.cellsOf 145 = 1 := by kernel_rfl
@[simp] theorem Tryz.bytes145 : Tryz.prog.bytesOf 145 = 8 := by kernel_rfl
@[simp] theorem Tryz.zc145 : zcells Tryz.prog 145 = some [.nilfn] := by kernel_rfl
@[simp] theorem Tryz.zl145 : zlen Tryz.prog 145 = 1 := by kernel_rfl
@[simp] theorem Tryz.cells146 : Tryz.prog.cellsOf 146 = 1 := by kernel_rfl
@[simp] theorem Tryz.bytes146 : Tryz.prog.bytesOf 146 = 8 := by kernel_rfl
@[simp] theorem Tryz.zc146 : zcells Tryz.prog 146 = some [.nilp] := by kernel_rfl
@[simp] theorem Tryz.zl146 : zlen Tryz.prog 146 = 1 := by kernel_rfl
@[simp] theorem Tryz.cells147 : Tryz.prog.cellsOf 147 = 1 := by kernel_rfl
@[simp] theorem Tryz.bytes147 : Tryz.prog.bytesOf 147 = 8 := by kernel_rfl
@[simp] theorem Tryz.zc147 : zcells Tryz.prog 147 = some [.nilfn] := by kernel_rfl
@[simp] theorem Tryz.zl147 : zlen Tryz.prog 147 = 1 := by kernel_rfl
@[simp] theorem Tryz.cells148 : Tryz.prog.cellsOf 148 = 1 := by kernel_rfl
@[simp] theorem Tryz.bytes148 : Tryz.prog.bytesOf 148 = 8 := by kernel_rfl
@[simp] theorem Tryz.zc148 : zcells Tryz.prog 148 = some [.nilfn] := by kernel_rfl
@[simp] theorem Tryz.zl148 : zlen Tryz.prog 148 = 1 := by kernel_rfl
@[simp] theorem Tryz.cells149 : Tryz.prog.cellsOf 149 = 1 := by kernel_rfl
@[simp] theorem Tryz.bytes149 : Tryz.prog.bytesOf 149 = 8 := by kernel_rfl
@[simp] theorem Tryz.zc149 : zcells Tryz.prog 149 = some [.nilfn] := by kernel_rfl
@[simp] theorem Tryz.zl149 : zlen Tryz.prog 149 = 1 := by kernel_rfl
@[simp] theorem Tryz.cells150 : Tryz.prog.cellsOf 150 = 3 := by kernel_rfl
@[simp] theorem Tryz.bytes150 : Tryz.prog.bytesOf 150 = 48 := by kernel_rfl
@[simp] theorem Tryz.zc150 : zcells Tryz.prog 150 = some [.str ByteArray.empty, .str ByteArray.empty, .nilif] := by kernel_rfl
@[simp] theorem Tryz.zl150 : zlen Tryz.prog 150 = 3 := by kernel_rfl
@[simp] theorem Tryz.cells151 : Tryz.prog.cellsOf 151 = 3 := by kernel_rfl
@[simp] theorem Tryz.bytes151 : Tryz.prog.bytesOf 151 = 48 := by kernel_rfl
@[simp] theorem Tryz.zc151 : zcells Tryz.prog 151 = some [.str ByteArray.empty, .str ByteArray.empty, .nilif] := by kernel_rfl
@[simp] theorem Tryz.zl151 : zlen Tryz.prog 151 = 3 := by kernel_rfl
@[simp] theorem Tryz.cells152 : Tryz.prog.cellsOf 152 = 1 := by kernel_rfl
@[simp] theorem Tryz.bytes152 : Tryz.prog.bytesOf 152 = 8 := by kernel_rfl
@[simp] theorem Tryz.zc152 : zcells Tryz.prog 152 = some [.nilfn] := by kernel_rfl
@[simp] theorem Tryz.zl152 : zlen Tryz.prog 152 = 1 := by kernel_rfl
@[simp] theorem Tryz.cells154 : Tryz.prog.cellsOf 154 = 1 := by kernel_rfl
@[simp] theorem Tryz.bytes154 : Tryz.prog.bytesOf 154 = 8 := by kernel_rfl
@[simp] theorem Tryz.zc154 : zcells Tryz.prog 154 = some [.nilfn] := by kernel_rfl
@[simp] theorem Tryz.zl154 : zlen Tryz.prog 154 = 1 := by kernel_rfl
@[simp] theorem Tryz.cells156 : Tryz.prog.cellsOf 156 = 1 := by kernel_rfl
@[simp] theorem Tryz.bytes156 : Tryz.prog.bytesOf 156 = 8 := by kernel_rfl
@[simp] theorem Tryz.zc156 : zcells Tryz.prog 156 = some [.nilfn] := by kernel_rfl
@[simp] theorem Tryz.zl156 : zlen Tryz.prog 156 = 1 := by kernel_rfl
@[simp] theorem Tryz.cells157 : Tryz.prog.cellsOf 157 = 1 := by kernel_rfl
@[simp] theorem Tryz.bytes157 : Tryz.prog.bytesOf 157 = 8 := by kernel_rfl
@[simp] theorem Tryz.zc157 : zcells Tryz.prog 157 = some [.nilfn] := by kernel_rfl
@[simp] theorem Tryz.zl157 : zlen Tryz.prog 157 = 1 := by kernel_rfl
@[simp] theorem Tryz.cells158 : Tryz.prog.cellsOf 158 = 1 := by kernel_rfl
@[simp] theorem Tryz.bytes158 : Tryz.prog.bytesOf 158 = 8 := by kernel_rfl
@[simp] theorem Tryz.zc158 : zcells Tryz.prog 158 = some [.nilp] := by kernel_rfl
@[simp] theorem Tryz.zl158 : zlen Tryz.prog 158 = 1 := by kernel_rfl
@[simp] theorem Tryz.cells159 : Tryz.prog.cellsOf 159 = 1 := by kernel_rfl
@[simp] theorem Tryz.bytes159 : Tryz.prog.bytesOf 159 = 16 := by kernel_rfl
@[simp] theorem Tryz.zc159 : zcells Tryz.prog 159 = some [.str ByteArray.empty] := by kernel_rfl
@[simp] theorem Tryz.zl159 : zlen Tryz.prog 159 = 1 := by kernel_rfl
@[simp] theorem Tryz.eqa159 (x0 y0 : ByteArray) : EqA Tryz.prog 159 [.str x0] [.str y0] :=
  EqA_of (l := [.str]) 6 (by kernel_rfl) (by kernel_rfl) (by kernel_rfl) (by kernel_rfl) (by omega) (by simp [LSS, SSh]) (by simp [LSS, SSh])
@[simp] theorem Tryz.cells160 : Tryz.prog.cellsOf 160 = 1 := by kernel_rfl
@[simp] theorem Tryz.bytes160 : Tryz.prog.bytesOf 160 = 16 := by kernel_rfl
@[simp] theorem Tryz.zc160 : zcells Tryz.prog 160 = some [.str ByteArray.empty] := by kernel_rfl
@[simp] theorem Tryz.zl160 : zlen Tryz.prog 160 = 1 := by kernel_rfl
@[simp] theorem Tryz.eqa160 (x0 y0 : ByteArray) : EqA Tryz.prog 160 [.str x0] [.str y0] :=
  EqA_of (l := [.str]) 6 (by kernel_rfl) (by kernel_rfl) (by kernel_rfl) (by kernel_rfl) (by omega) (by simp [LSS, SSh]) (by simp [LSS, SSh])
@[simp] theorem Tryz.cells161 : Tryz.prog.cellsOf 161 = 32 := by kernel_rfl
@[simp] theorem Tryz.bytes161 : Tryz.prog.bytesOf 161 = 32 := by kernel_rfl
@[simp] theorem Tryz.zc161 : zcells Tryz.prog 161 = some [.int .u8 0, .int .u8 0, .int .u8 0, .int .u8 0, .int .u8 0, .int .u8 0, .int .u8 0, .int .u8 0, .int .u8 0, .int .u8 0, .int .u8 0, .int .u8 0, .int .u8 0, .int .u8 0, .int .u8 0, .int .u8 0, .int .u8 0, .int .u8 0, .int .u8 0, .int .u8 0, .int .u8 0, .int .u8 0, .int .u8 0, .int .u8 0, .int .u8 0, .int .u8 0, .int .u8 0, .int .u8 0, .int .u8 0, .int .u8 0, .int .u8 0, .int .u8 0] := by kernel_rfl
@[simp] theorem Tryz.zl161 : zlen Tryz.prog 161 = 32 := by kernel_rfl
@[simp] theorem Tryz.cells162 : Tryz.prog.cellsOf 162 = 64 := by kernel_rfl
@[simp] theorem Tryz.bytes162 : Tryz.prog.bytesOf 162 = 64 := by kernel_rfl
@[simp] theorem Tryz.zc162 : zcells Tryz.prog 162 = some [.int .u8 0, .int .u8 0, .int .u8 0, .int .u8 0, .int .u8 0, .int .u8 0, .int .u8 0, .int .u8 0, .int .u8 0, .int .u8 0, .int .u8 0, .int .u8 0, .int .u8 0, .int .u8 0, .int .u8 0, .int .u8 0, .int .u8 0, .int .u8 0, .int .u8 0, .int .u8 0, .int .u8 0, .int .u8 0, .int .u8 0, .int .u8 0, .int .u8 0, .int .u8 0, .int .u8 0, .int .u8 0, .int .u8 0, .int .u8 0, .int .u8 0, .int .u8 0, .int .u8 0, .int .u8 0, .int .u8 0, .int .u8 0, .int .u8 0, .int .u8 0, .int .u8 0, .int .u8 0, .int .u8 0, .int .u8 0, .int .u8 0, .int .u8 0, .int .u8 0, .int .u8 0, .int .u8 0, .int .u8 0, .int .u8 0, .int .u8 0, .int .u8 0, .int .u8 0, .int .u8 0, .int .u8 0, .int .u8 0, .int .u8 0, .int .u8 0, .int .u8 0, .int .u8 0, .int .u8 0, .int .u8 0, .int .u8 0, .int .u8 0, .int .u8 0] := by kernel_rfl
@[simp] theorem Tryz.zl162 : zlen Tryz.prog 162 = 64 := by kernel_rfl
@[simp] theorem Tryz.cells163 : Tryz.prog.cellsOf 163 = 256 := by kernel_rfl
@[simp] theorem Tryz.bytes163 : Tryz.prog.bytesOf 163 = 256 := by kernel_rfl
@[simp] theorem Tryz.zc163 : zcells Tryz.prog 163 = some [.int .u8 0, .int .u8 0, .int .u8 0, .int .u8 0, .int .u8 0, .int .u8 0, .int .u8 0, .int .u8 0, .int .u8 0, .int .u8 0, .int .u8 0, .int .u8 0, .int .u8 0, .int .u8 0, .int .u8 0, .int .u8 0, .int .u8 0, .int .u8 0, .int .u8 0, .int .u8 0, .int .u8 0, .int .u8 0, .int .u8 0, .int .u8 0, .int .u8 0, .int .u8 0, .int .u8 0, .int .u8 0, .int .u8 0, .int .u8 0, .int .u8 0, .int .u8 0, .int .u8 0, .int .u8 0, .int .u8 0, .int .u8 0, .int .u8 0, .int .u8 0, .int .u8 0, .int .u8 0, .int .u8 0, .int .u8 0, .int .u8 0, .int .u8 0, .int .u8 0, .int .u8 0, .int .u8 0, .int .u8 0, .int .u8 0, .int .u8 0, .int .u8 0, .int .u8 0, .int .u8 0, .int .u8 0, .int .u8 0, .int .u8 0, .int .u8 0, .int .u8 0, .int .u8 0, .int .u8 0, .int .u8 0, .int .u8 0, .int .u8 0, .int .u8 0, .int .u8 0, .int .u8 0, .int .u8 0, .int .u8 0, .int .u8 0, .int .u8 0, .int .u8 0, .int .u8 0, .int .u8 0, .int .u8 0, .int .u8 0, .int .u8 0, .int .u8 0, .int .u8 0, .int .u8 0, .int .u8 0, .int .u8 0, .int .u8 0, .int .u8 0, .int .u8 0, .int .u8 0, .int .u8 0, .int .u8 0, .int .u8 0, .int .u8 0, .int .u8 0, .int .u8 0, .int .u8 0, .int .u8 0, .int .u8 0, .int .u8 0, .int .u8 0, .int .u8 0, .int .u8 0, .int .u8 0, .int .u8 0, .int .u8 0, .int .u8 0, .int .u8 0, .int .u8 0, .int .u8 0, .int .u8 0, .int .u8 0, .int .u8 0, .int .u8 0, .int .u8 0, .int .u8 0, .int .u8 0, .int .u8 0, .int .u8 0, .int .u8 0, .int .u8 0, .int .u8 0, .int .u8 0, .int .u8 0, .int .u8 0, .int .u8 0, .int .u8 0, .int .u8 0, .int .u8 0, .int .u8 0, .int .u8 0, .int .u8 0, .int .u8 0, .int .u8 0, .int .u8 0, .int .u8 0, .int .u8 0, .int .u8 0, .int .u8 0, .int .u8 0, .int .u8 0, .int .u8 0, .int .u8 0, .int .u8 0, .int .u8 0, .int .u8 0, .int .u8 0, .int .u8 0, .int .u8 0, .int .u8 0, .int .u8 0, .int .u8 0, .int .u8 0, .int .u8 0, .int .u8 0, .int .u8 0, .int .u8 0, .int .u8 0, .int .u8 0, .int .u8 0, .int .u8 0, .int .u8 0, .int .u8 0, .int .u8 0, .int .u8 0, .int .u8 0, .int .u8 0, .int .u8 0, .int .u8 0, .int .u8 0, .int .u8 0, .int .u8 0, .int .u8 0, .int .u8 0, .int .u8 0, .int .u8 0, .int .u8 0, .int .u8 0, .int .u8 0, .int .u8 0, .int .u8 0, .int .u8 0, .int .u8 0, .int .u8 0, .int .u8 0, .int .u8 0, .int .u8 0, .int .u8 0, .int .u8 0, .int .u8 0, .int .u8 0, .int .u8 0, .int .u8 0, .int .u8 0, .int .u8 0, .int .u8 0, .int .u8 0, .int .u8 0, .int .u8 0, .int .u8 0, .int .u8 0, .int .u8 0, .int .u8 0, .int .u8 0, .int .u8 0, .int .u8 0, .int .u8 0, .int .u8 0, .int .u8 0, .int .u8 0, .int .u8 0, .int .u8 0, .int .u8 0, .int .u8 0, .int .u8 0, .int .u8 0, .int .u8 0, .int .u8 0, .int .u8 0, .int .u8 0, .int .u8 0, .int .u8 0, .int .u8 0, .int .u8 0, .int .u8 0, .int .u8 0, .int .u8 0, .int .u8 0, .int .u8 0, .int .u8 0, .int .u8 0, .int .u8 0, .int .u8 0, .int .u8 0, .int .u8 0, .int .u8 0, .int .u8 0, .int .u8 0, .int .u8 0, .int .u8 0, .int .u8 0, .int .u8 0, .int .u8 0, .int .u8 0, .int .u8 0, .int .u8 0, .int .u8 0, .int .u8 0, .int .u8 0, .int .u8 0, .int .u8 0, .int .u8 0, .int .u8 0, .int .u8 0, .int .u8 0, .int .u8 0, .int .u8 0, .int .u8 0, .int .u8 0, .int .u8 0, .int .u8 0] := by kernel_rfl
@[simp] theorem Tryz.zl163 : zlen Tryz.prog 163 = 256 := by kernel_rfl
@[simp] theorem Tryz.cells164 : Tryz.prog.cellsOf 164 = 2 := by kernel_rfl
@[simp] theorem Tryz.bytes164 : Tryz.prog.bytesOf 164 = 2 := by kernel_rfl
@[simp] theorem Tryz.zc164 : zcells Tryz.prog 164 = some [.int .u8 0, .int .u8 0] := by kernel_rfl
@[simp] theorem Tryz.zl164 : zlen Tryz.prog 164 = 2 := by kernel_rfl
@[simp] theorem Tryz.eqa164 (x0 y0 : Int) (x1 y1 : Int) : EqA Tryz.prog 164 [.int .u8 x0, .int .u8 x1] [.int .u8 y0, .int .u8 y1] :=
  EqA_of (l := [.int .u8, .int .u8]) 6 (by kernel_rfl) (by kernel_rfl) (by kernel_rfl) (by kernel_rfl) (by omega) (by simp [LSS, SSh]) (by simp [LSS, SSh])
@[simp] theorem Tryz.cells165 : Tryz.prog.cellsOf 165 = 2 := by kernel_rfl
@[simp] theorem Tryz.bytes165 : Tryz.prog.bytesOf 165 = 2 := by kernel_rfl
@[simp] theorem Tryz.zc165 : zcells Tryz.prog 165 = some [.int .u8 0, .int .u8 0] := by kernel_rfl
@[simp] theorem Tryz.zl165 : zlen Tryz.prog 165 = 2 := by kernel_rfl
@[simp] theorem Tryz.eqa165 (x0 y0 : Int) (x1 y1 : Int) : EqA Tryz.prog 165 [.int .u8 x0, .int .u8 x1] [.int .u8 y0, .int .u8 y1] :=
  EqA_of (l := [.int .u8, .int .u8]) 6 (by kernel_rfl) (by kernel_rfl) (by kernel_rfl) (by kernel_rfl) (by omega) (by simp [LSS, SSh]) (by simp [LSS, SSh])
@[simp] theorem Tryz.cells166 : Tryz.prog.cellsOf 166 = 32 := by kernel_rfl
@[simp] theorem Tryz.bytes166 : Tryz.prog.bytesOf 166 = 32 := by kernel_rfl
@[simp] theorem Tryz.zc166 : zcells Tryz.prog 166 = some [.int .u8 0, .int .u8 0, .int .u8 0, .int .u8 0, .int .u8 0, .int .u8 0, .int .u8 0, .int .u8 0, .int .u8 0, .int .u8 0, .int .u8 0, .int .u8 0, .int .u8 0, .int .u8 0, .int .u8 0, .int .u8 0, .int .u8 0, .int .u8 0, .int .u8 0, .int .u8 0, .int .u8 0, .int .u8 0, .int .u8 0, .int .u8 0, .int .u8 0, .int .u8 0, .int .u8 0, .int .u8 0, .int .u8 0, .int .u8 0, .int .u8 0, .int .u8 0] := by kernel_rfl
@[simp] theorem Tryz.zl166 : zlen Tryz.prog 166 = 32 := by kernel_rfl
@[simp] theorem Tryz.cells167 : Tryz.prog.cellsOf 167 = 4 := by kernel_rfl
@[simp] theorem Tryz.bytes167 : Tryz.prog.bytesOf 167 = 40 := by kernel_rfl
@[simp] theorem Tryz.zc167 : zcells Tryz.prog 167 = some [.nilp, .nilp, .nilp, .str ByteArray.empty] := by kernel_rfl
@[simp] theorem Tryz.zl167 : zlen Tryz.prog 167 = 4 := by kernel_rfl
@[simp] theorem Tryz.cells168 : Tryz.prog.cellsOf 168 = 4 := by kernel_rfl
@[simp] theorem Tryz.bytes168 : Tryz.prog.bytesOf 168 = 40 := by kernel_rfl
@[simp] theorem Tryz.zc168 : zcells Tryz.prog 168 = some [.nilp, .nilp, .nilp, .str ByteArray.empty] := by kernel_rfl
@[simp] theorem Tryz.zl168 : zlen Tryz.prog 168 = 4 := by kernel_rfl
@[simp] theorem Tryz.cells169 : Tryz.prog.cellsOf 169 = 0 := by kernel_rfl
@[simp] theorem Tryz.bytes169 : Tryz.prog.bytesOf 169 = 0 := by kernel_rfl
@[simp] theorem Tryz.zc169 : zcells Tryz.prog 169 = some [] := by kernel_rfl
@[simp] theorem Tryz.zl169 : zlen Tryz.prog 169 = 0 := by kernel_rfl
@[simp] theorem Tryz.cells170 : Tryz.prog.cellsOf 170 = 0 := by kernel_rfl
@[simp] theorem Tryz.bytes170 : Tryz.prog.bytesOf 170 = 0 := by kernel_rfl
@[simp] theorem Tryz.zc170 : zcells Tryz.prog 170 = some [] := by kernel_rfl
@[simp] theorem Tryz.zl170 : zlen Tryz.prog 170 = 0 := by kernel_rfl
@[simp] theorem Tryz.cells171 : Tryz.prog.cellsOf 171 = 0 := by kernel_rfl
@[simp] theorem Tryz.bytes171 : Tryz.prog.bytesOf 171 = 0 := by kernel_rfl
@[simp] theorem Tryz.zc171 : zcells Tryz.prog 171 = some [] := by kernel_rfl
@[simp] theorem Tryz.zl171 : zlen Tryz.prog 171 = 0 := by kernel_rfl
@[simp] theorem Tryz.cells172 : Tryz.prog.cellsOf 172 = 1 := by kernel_rfl
@[simp] theorem Tryz.bytes172 : Tryz.prog.bytesOf 172 = 1 := by kernel_rfl
@[simp] theorem Tryz.zc172 : zcells Tryz.prog 172 = some [.int .u8 0] := by kernel_rfl
@[simp] theorem Tryz.zl172 : zlen Tryz.prog 172 = 1 := by kernel_rfl
@[simp] theorem Tryz.cells173 : Tryz.prog.cellsOf 173 = 1 := by kernel_rfl
@[simp] theorem Tryz.bytes173 : Tryz.prog.bytesOf 173 = 1 := by kernel_rfl
@[simp] theorem Tryz.zc173 : zcells Tryz.prog 173 = some [.int .u8 0] := by kernel_rfl
@[simp] theorem Tryz.zl173 : zlen Tryz.prog 173 = 1 := by kernel_rfl
@[simp] theorem Tryz.cells174 : Tryz.prog.cellsOf 174 = 1 := by kernel_rfl
@[simp] theorem Tryz.bytes174 : Tryz.prog.bytesOf 174 = 8 := by kernel_rfl
@[simp] theorem Tryz.zc174 : zcells Tryz.prog 174 = some [.nilfn] := by kernel_rfl
@[simp] theorem Tryz.zl174 : zlen Tryz.prog 174 = 1 := by kernel_rfl
@[simp] theorem Tryz.cells175 : Tryz.prog.cellsOf 175 = 1 := by kernel_rfl
@[simp] theorem Tryz.bytes175 : Tryz.prog.bytesOf 175 = 4 := by kernel_rfl
@[simp] theorem Tryz.zc175 : zcells Tryz.prog 175 = some [.int .i32 0] := by kernel_rfl
@[simp] theorem Tryz.zl175 : zlen Tryz.prog 175 = 1 := by kernel_rfl
@[simp] theorem Tryz.cells176 : Tryz.prog.cellsOf 176 = 1 := by kernel_rfl
@[simp] theorem Tryz.bytes176 : Tryz.prog.bytesOf 176 = 4 := by kernel_rfl
@[simp] theorem Tryz.zc176 : zcells Tryz.prog 176 = some [.int .i32 0] := by kernel_rfl
@[simp] theorem Tryz.zl176 : zlen Tryz.prog 176 = 1 := by kernel_rfl
@[simp] theorem Tryz.cells177 : Tryz.prog.cellsOf 177 = 11 := by kernel_rfl
@[simp] theorem Tryz.bytes177 : Tryz.prog.bytesOf 177 = 48 := by kernel_rfl
@[simp] theorem Tryz.zc177 : zcells Tryz.prog 177 = some [.int .u64 0, .int .u64 0, .int .u32 0, .int .u8 0, .int .u8 0, .int .u8 0, .int .u8 0, .nilfn, .nilp, .int .i32 0, .int .i32 0] := by kernel_rfl
@[simp] theorem Tryz.zl177 : zlen Tryz.prog 177 = 11 := by kernel_rfl
@[simp] theorem Tryz.cells178 : Tryz.prog.cellsOf 178 = 11 := by kernel_rfl
@[simp] theorem Tryz.bytes178 : Tryz.prog.bytesOf 178 = 48 := by kernel_rfl
@[simp] theorem Tryz.zc178 : zcells Tryz.prog 178 = some [.int .u64 0, .int .u64 0, .int .u32 0, .int .u8 0, .int .u8 0, .int .u8 0, .int .u8 0, .nilfn, .nilp, .int .i32 0, .int .i32 0] := by kernel_rfl
@[simp] theorem Tryz.zl178 : zlen Tryz.prog 178 = 11 := by kernel_rfl

theorem mixed : Tryz.prog.follows .mixedOrders = true := by kernel_rfl
/-- The library's table of the places of single bits (laid: math/bits.deBruijn64tab). -/
def tab64 : List V := ([0, 1, 56, 2, 57, 49, 28, 3, 61, 58, 42, 50, 38, 29, 17, 4, 62, 47, 59, 36, 45, 43, 51, 22, 53, 39, 33, 30, 24, 18, 12, 5, 63, 55, 48, 27, 60, 41, 37, 16, 46, 35, 44, 21, 52, 32, 23, 11, 54, 26, 40, 15, 34, 20, 31, 10, 25, 14, 19, 9, 13, 8, 7, 6] : List Int).map fun n => .int .u8 n
/-- The powers of ten (laid: internal/strconv.uint64pow10). -/
def pow10V : List Value := Lib.pow10Tab.map fun z => Value.int .u64 z
def gvT (g : Nat) : V := if g = 5 then .rptr tab64 0 else if g = 0 then .rptr [.iany .i64] 0 else if g = 2 then .rptr [.iface 158 .junk] 0 else if g = 3 then .rptr [.iface 158 .junk] 0 else .junk
def gvL (g : Nat) : Option (List Value) := if g = 1 then some pow10V else none
instance : Gl Tryz.prog := ⟨gvT, fun g => by unfold gvT; split; rfl; split; rfl; split; rfl; split <;> rfl, gvL⟩
@[simp] theorem gv_5 : Gl.gv Tryz.prog 5 = .rptr tab64 0 := rfl
theorem gv_max : Gl.gv Tryz.prog 0 = .rptr [.iany .i64] 0 := rfl
theorem gv_syn : Gl.gv Tryz.prog 2 = .rptr [.iface 158 .junk] 0 := rfl
theorem gv_rng : Gl.gv Tryz.prog 3 = .rptr [.iface 158 .junk] 0 := rfl
theorem gl_pow : Gl.lay Tryz.prog 1 = some pow10V := rfl

end Go.Proofs.YtbnjijffkjcmcaaGreatDoor.AL
