import Derived.Test.YtpcblologcindaaS02W1
import Derived.Test.YtpcblologcindaaProg
/- What single functions compute: a part of the proof; no conditions. -/
set_option linter.unusedVariables false
set_option linter.unusedSimpArgs false
set_option maxRecDepth 100000
namespace Go.Proofs.Ytpcblologcindaa.AL
open Go
attribute [local simp] qf cv qbin ibin sbin qun retPost rvOk ctV ctPost marksOk retV resAll resOf V.lt ltL V.ren renL V.exp cleanL V.clean closedL V.closed V.cells V.one V.tree
  loadV cellsAt isAggD placesOf fillV putCells lstore bound seqParts V.sh shL Blk.sh newV V.ok peqs peq srcRows appOk V.fz fzL Blk.fz fzOk and_assoc
attribute [-simp] Int.not_le Int.not_lt Nat.not_le Nat.not_lt
@[simp] theorem Try.cells1 : Try.prog.cellsOf 1 = 1 := by kernel_rfl
@[simp] theorem Try.bytes1 : Try.prog.bytesOf 1 = 8 := by kernel_rfl
@[simp] theorem Try.zc1 : zcells Try.prog 1 = some [.nilfn] := by kernel_rfl
@[simp] theorem Try.zl1 : zlen Try.prog 1 = 1 := by kernel_rfl
@[simp] theorem Try.cells2 : Try.prog.cellsOf 2 = 1 := by kernel_rfl
@[simp] theorem Try.bytes2 : Try.prog.bytesOf 2 = 8 := by kernel_rfl
@[simp] theorem Try.zc2 : zcells Try.prog 2 = some [.int .i64 0] := by kernel_rfl
@[simp] theorem Try.zl2 : zlen Try.prog 2 = 1 := by kernel_rfl
@[simp] theorem Try.cells3 : Try.prog.cellsOf 3 = 1 := by kernel_rfl
@[simp] theorem Try.bytes3 : Try.prog.bytesOf 3 = 8 := by kernel_rfl
@[simp] theorem Try.zc3 : zcells Try.prog 3 = some [.int .i64 0] := by kernel_rfl
@[simp] theorem Try.zl3 : zlen Try.prog 3 = 1 := by kernel_rfl
@[simp] theorem Try.cells4 : Try.prog.cellsOf 4 = 1 := by kernel_rfl
@[simp] theorem Try.bytes4 : Try.prog.bytesOf 4 = 1 := by kernel_rfl
@[simp] theorem Try.zc4 : zcells Try.prog 4 = some [.bool false] := by kernel_rfl
@[simp] theorem Try.zl4 : zlen Try.prog 4 = 1 := by kernel_rfl
@[simp] theorem Try.cells5 : Try.prog.cellsOf 5 = 1 := by kernel_rfl
@[simp] theorem Try.bytes5 : Try.prog.bytesOf 5 = 1 := by kernel_rfl
@[simp] theorem Try.zc5 : zcells Try.prog 5 = some [.int .u8 0] := by kernel_rfl
@[simp] theorem Try.zl5 : zlen Try.prog 5 = 1 := by kernel_rfl
@[simp] theorem Try.cells6 : Try.prog.cellsOf 6 = 1 := by kernel_rfl
@[simp] theorem Try.bytes6 : Try.prog.bytesOf 6 = 1 := by kernel_rfl
@[simp] theorem Try.zc6 : zcells Try.prog 6 = some [.int .u8 0] := by kernel_rfl
@[simp] theorem Try.zl6 : zlen Try.prog 6 = 1 := by kernel_rfl
@[simp] theorem Try.cells7 : Try.prog.cellsOf 7 = 4 := by kernel_rfl
@[simp] theorem Try.bytes7 : Try.prog.bytesOf 7 = 24 := by kernel_rfl
@[simp] theorem Try.zc7 : zcells Try.prog 7 = some [.int .i64 0, .int .i64 0, .bool false, .int .u8 0] := by kernel_rfl
@[simp] theorem Try.zl7 : zlen Try.prog 7 = 4 := by kernel_rfl
@[simp] theorem Try.eqa7 (x0 y0 : Int) (x1 y1 : Int) (x2 y2 : Bool) (x3 y3 : Int) : EqA Try.prog 7 [.int .i64 x0, .int .i64 x1, .bool x2, .int .u8 x3] [.int .i64 y0, .int .i64 y1, .bool y2, .int .u8 y3] :=
  EqA_of (l := [.int .i64, .int .i64, .bool, .int .u8]) 6 (by kernel_rfl) (by kernel_rfl) (by kernel_rfl) (by kernel_rfl) (by omega) (by simp [LSS, SSh]) (by simp [LSS, SSh])
@[simp] theorem Try.cells8 : Try.prog.cellsOf 8 = 4 := by kernel_rfl
@[simp] theorem Try.bytes8 : Try.prog.bytesOf 8 = 24 := by kernel_rfl
@[simp] theorem Try.zc8 : zcells Try.prog 8 = some [.int .i64 0, .int .i64 0, .bool false, .int .u8 0] := by kernel_rfl
@[simp] theorem Try.zl8 : zlen Try.prog 8 = 4 := by kernel_rfl
@[simp] theorem Try.eqa8 (x0 y0 : Int) (x1 y1 : Int) (x2 y2 : Bool) (x3 y3 : Int) : EqA Try.prog 8 [.int .i64 x0, .int .i64 x1, .bool x2, .int .u8 x3] [.int .i64 y0, .int .i64 y1, .bool y2, .int .u8 y3] :=
  EqA_of (l := [.int .i64, .int .i64, .bool, .int .u8]) 6 (by kernel_rfl) (by kernel_rfl) (by kernel_rfl) (by kernel_rfl) (by omega) (by simp [LSS, SSh]) (by simp [LSS, SSh])
@[simp] theorem Try.cells9 : Try.prog.cellsOf 9 = 1 := by kernel_rfl
@[simp] theorem Try.bytes9 : Try.prog.bytesOf 9 = 16 := by kernel_rfl
@[simp] theorem Try.zc9 : zcells Try.prog 9 = some [.str ByteArray.empty] := by kernel_rfl
@[simp] theorem Try.zl9 : zlen Try.prog 9 = 1 := by kernel_rfl
@[simp] theorem Try.cells10 : Try.prog.cellsOf 10 = 1 := by kernel_rfl
@[simp] theorem Try.bytes10 : Try.prog.bytesOf 10 = 16 := by kernel_rfl
@[simp] theorem Try.zc10 : zcells Try.prog 10 = some [.str ByteArray.empty] := by kernel_rfl
@[simp] theorem Try.zl10 : zlen Try.prog 10 = 1 := by kernel_rfl
@[simp] theorem Try.cells11 : Try.prog.cellsOf 11 = 1 := by kernel_rfl
@[simp] theorem Try.bytes11 : Try.prog.bytesOf 11 = 16 := by kernel_rfl
@[simp] theorem Try.zc11 : zcells Try.prog 11 = some [.str ByteArray.empty] := by kernel_rfl
@[simp] theorem Try.zl11 : zlen Try.prog 11 = 1 := by kernel_rfl
@[simp] theorem Try.cells12 : Try.prog.cellsOf 12 = 1 := by kernel_rfl
@[simp] theorem Try.bytes12 : Try.prog.bytesOf 12 = 8 := by kernel_rfl
@[simp] theorem Try.zc12 : zcells Try.prog 12 = some [.int .u64 0] := by kernel_rfl
@[simp] theorem Try.zl12 : zlen Try.prog 12 = 1 := by kernel_rfl
@[simp] theorem Try.cells13 : Try.prog.cellsOf 13 = 2 := by kernel_rfl
@[simp] theorem Try.bytes13 : Try.prog.bytesOf 13 = 24 := by kernel_rfl
@[simp] theorem Try.zc13 : zcells Try.prog 13 = some [.str ByteArray.empty, .int .u64 0] := by kernel_rfl
@[simp] theorem Try.zl13 : zlen Try.prog 13 = 2 := by kernel_rfl
@[simp] theorem Try.cells14 : Try.prog.cellsOf 14 = 2 := by kernel_rfl
@[simp] theorem Try.bytes14 : Try.prog.bytesOf 14 = 24 := by kernel_rfl
@[simp] theorem Try.zc14 : zcells Try.prog 14 = some [.str ByteArray.empty, .int .u64 0] := by kernel_rfl
@[simp] theorem Try.zl14 : zlen Try.prog 14 = 2 := by kernel_rfl
@[simp] theorem Try.cells15 : Try.prog.cellsOf 15 = 1 := by kernel_rfl
@[simp] theorem Try.bytes15 : Try.prog.bytesOf 15 = 8 := by kernel_rfl
@[simp] theorem Try.zc15 : zcells Try.prog 15 = some [.nilp] := by kernel_rfl
@[simp] theorem Try.zl15 : zlen Try.prog 15 = 1 := by kernel_rfl
@[simp] theorem Try.cells16 : Try.prog.cellsOf 16 = 1 := by kernel_rfl
@[simp] theorem Try.bytes16 : Try.prog.bytesOf 16 = 8 := by kernel_rfl
@[simp] theorem Try.zc16 : zcells Try.prog 16 = some [.nilp] := by kernel_rfl
@[simp] theorem Try.zl16 : zlen Try.prog 16 = 1 := by kernel_rfl
@[simp] theorem Try.cells17 : Try.prog.cellsOf 17 = 1 := by kernel_rfl
@[simp] theorem Try.bytes17 : Try.prog.bytesOf 17 = 8 := by kernel_rfl
@[simp] theorem Try.zc17 : zcells Try.prog 17 = some [.nilp] := by kernel_rfl
@[simp] theorem Try.zl17 : zlen Try.prog 17 = 1 := by kernel_rfl
@[simp] theorem Try.cells18 : Try.prog.cellsOf 18 = 1 := by kernel_rfl
@[simp] theorem Try.bytes18 : Try.prog.bytesOf 18 = 8 := by kernel_rfl
@[simp] theorem Try.zc18 : zcells Try.prog 18 = some [.nilp] := by kernel_rfl
@[simp] theorem Try.zl18 : zlen Try.prog 18 = 1 := by kernel_rfl
@[simp] theorem Try.cells19 : Try.prog.cellsOf 19 = 1 := by kernel_rfl
@[simp] theorem Try.bytes19 : Try.prog.bytesOf 19 = 8 := by kernel_rfl
@[simp] theorem Try.zc19 : zcells Try.prog 19 = some [.nilp] := by kernel_rfl
@[simp] theorem Try.zl19 : zlen Try.prog 19 = 1 := by kernel_rfl
@[simp] theorem Try.cells20 : Try.prog.cellsOf 20 = 1 := by kernel_rfl
@[simp] theorem Try.bytes20 : Try.prog.bytesOf 20 = 16 := by kernel_rfl
@[simp] theorem Try.zc20 : zcells Try.prog 20 = some [.nilif] := by kernel_rfl
@[simp] theorem Try.zl20 : zlen Try.prog 20 = 1 := by kernel_rfl
@[simp] theorem Try.cells21 : Try.prog.cellsOf 21 = 1 := by kernel_rfl
@[simp] theorem Try.bytes21 : Try.prog.bytesOf 21 = 4 := by kernel_rfl
@[simp] theorem Try.zc21 : zcells Try.prog 21 = some [.int .i32 0] := by kernel_rfl
@[simp] theorem Try.zl21 : zlen Try.prog 21 = 1 := by kernel_rfl
@[simp] theorem Try.cells22 : Try.prog.cellsOf 22 = 1 := by kernel_rfl
@[simp] theorem Try.bytes22 : Try.prog.bytesOf 22 = 8 := by kernel_rfl
@[simp] theorem Try.zc22 : zcells Try.prog 22 = some [.int .u64 0] := by kernel_rfl
@[simp] theorem Try.zl22 : zlen Try.prog 22 = 1 := by kernel_rfl
@[simp] theorem Try.cells23 : Try.prog.cellsOf 23 = 2 := by kernel_rfl
@[simp] theorem Try.bytes23 : Try.prog.bytesOf 23 = 16 := by kernel_rfl
@[simp] theorem Try.zc23 : zcells Try.prog 23 = some [.int .u64 0, .int .u64 0] := by kernel_rfl
@[simp] theorem Try.zl23 : zlen Try.prog 23 = 2 := by kernel_rfl
@[simp] theorem Try.eqa23 (x0 y0 : Int) (x1 y1 : Int) : EqA Try.prog 23 [.int .u64 x0, .int .u64 x1] [.int .u64 y0, .int .u64 y1] :=
  EqA_of (l := [.int .u64, .int .u64]) 6 (by kernel_rfl) (by kernel_rfl) (by kernel_rfl) (by kernel_rfl) (by omega) (by simp [LSS, SSh]) (by simp [LSS, SSh])
@[simp] theorem Try.cells24 : Try.prog.cellsOf 24 = 2 := by kernel_rfl
@[simp] theorem Try.bytes24 : Try.prog.bytesOf 24 = 16 := by kernel_rfl
@[simp] theorem Try.zc24 : zcells Try.prog 24 = some [.int .u64 0, .int .u64 0] := by kernel_rfl
@[simp] theorem Try.zl24 : zlen Try.prog 24 = 2 := by kernel_rfl
@[simp] theorem Try.eqa24 (x0 y0 : Int) (x1 y1 : Int) : EqA Try.prog 24 [.int .u64 x0, .int .u64 x1] [.int .u64 y0, .int .u64 y1] :=
  EqA_of (l := [.int .u64, .int .u64]) 6 (by kernel_rfl) (by kernel_rfl) (by kernel_rfl) (by kernel_rfl) (by omega) (by simp [LSS, SSh]) (by simp [LSS, SSh])
@[simp] theorem Try.cells25 : Try.prog.cellsOf 25 = 4 := by kernel_rfl
@[simp] theorem Try.bytes25 : Try.prog.bytesOf 25 = 32 := by kernel_rfl
@[simp] theorem Try.zc25 : zcells Try.prog 25 = some [.int .u8 0, .int .u64 0, .int .u64 0, .int .i64 0] := by kernel_rfl
@[simp] theorem Try.zl25 : zlen Try.prog 25 = 4 := by kernel_rfl
@[simp] theorem Try.eqa25 (x0 y0 : Int) (x1 y1 : Int) (x2 y2 : Int) (x3 y3 : Int) : EqA Try.prog 25 [.int .u8 x0, .int .u64 x1, .int .u64 x2, .int .i64 x3] [.int .u8 y0, .int .u64 y1, .int .u64 y2, .int .i64 y3] :=
  EqA_of (l := [.int .u8, .int .u64, .int .u64, .int .i64]) 6 (by kernel_rfl) (by kernel_rfl) (by kernel_rfl) (by kernel_rfl) (by omega) (by simp [LSS, SSh]) (by simp [LSS, SSh])
@[simp] theorem Try.cells26 : Try.prog.cellsOf 26 = 4 := by kernel_rfl
@[simp] theorem Try.bytes26 : Try.prog.bytesOf 26 = 32 := by kernel_rfl
@[simp] theorem Try.zc26 : zcells Try.prog 26 = some [.int .u8 0, .int .u64 0, .int .u64 0, .int .i64 0] := by kernel_rfl
@[simp] theorem Try.zl26 : zlen Try.prog 26 = 4 := by kernel_rfl
@[simp] theorem Try.eqa26 (x0 y0 : Int) (x1 y1 : Int) (x2 y2 : Int) (x3 y3 : Int) : EqA Try.prog 26 [.int .u8 x0, .int .u64 x1, .int .u64 x2, .int .i64 x3] [.int .u8 y0, .int .u64 y1, .int .u64 y2, .int .i64 y3] :=
  EqA_of (l := [.int .u8, .int .u64, .int .u64, .int .i64]) 6 (by kernel_rfl) (by kernel_rfl) (by kernel_rfl) (by kernel_rfl) (by omega) (by simp [LSS, SSh]) (by simp [LSS, SSh])
@[simp] theorem Try.cells27 : Try.prog.cellsOf 27 = 1 := by kernel_rfl
@[simp] theorem Try.bytes27 : Try.prog.bytesOf 27 = 8 := by kernel_rfl
@[simp] theorem Try.zc27 : zcells Try.prog 27 = some [.int .i64 0] := by kernel_rfl
@[simp] theorem Try.zl27 : zlen Try.prog 27 = 1 := by kernel_rfl
@[simp] theorem Try.cells29 : Try.prog.cellsOf 29 = 1 := by kernel_rfl
@[simp] theorem Try.bytes29 : Try.prog.bytesOf 29 = 8 := by kernel_rfl
@[simp] theorem Try.zc29 : zcells Try.prog 29 = some [.nilfn] := by kernel_rfl
@[simp] theorem Try.zl29 : zlen Try.prog 29 = 1 := by kernel_rfl
@[simp] theorem Try.cells31 : Try.prog.cellsOf 31 = 1 := by kernel_rfl
@[simp] theorem Try.bytes31 : Try.prog.bytesOf 31 = 8 := by kernel_rfl
@[simp] theorem Try.zc31 : zcells Try.prog 31 = some [.nilfn] := by kernel_rfl
@[simp] theorem Try.zl31 : zlen Try.prog 31 = 1 := by kernel_rfl
@[simp] theorem Try.cells33 : Try.prog.cellsOf 33 = 1 := by kernel_rfl
@[simp] theorem Try.bytes33 : Try.prog.bytesOf 33 = 8 := by kernel_rfl
@[simp] theorem Try.zc33 : zcells Try.prog 33 = some [.nilfn] := by kernel_rfl
@[simp] theorem Try.zl33 : zlen Try.prog 33 = 1 := by kernel_rfl
@[simp] theorem Try.cells35 : Try.prog.cellsOf 35 = 1 := by kernel_rfl
@[simp] theorem Try.bytes35 : Try.prog.bytesOf 35 = 8 := by kernel_rfl
@[simp] theorem Try.zc35 : zcells Try.prog 35 = some [.nilfn] := by kernel_rfl
@[simp] theorem Try.zl35 : zlen Try.prog 35 = 1 := by kernel_rfl
@[simp] theorem Try.cells36 : Try.prog.cellsOf 36 = 1 := by kernel_rfl
@[simp] theorem Try.bytes36 : Try.prog.bytesOf 36 = 8 := by kernel_rfl
@[simp] theorem Try.zc36 : zcells Try.prog 36 = some [.nilfn] := by kernel_rfl
@[simp] theorem Try.zl36 : zlen Try.prog 36 = 1 := by kernel_rfl
@[simp] theorem Try.cells37 : Try.prog.cellsOf 37 = 1 := by kernel_rfl
@[simp] theorem Try.bytes37 : Try.prog.bytesOf 37 = 8 := by kernel_rfl
@[simp] theorem Try.zc37 : zcells Try.prog 37 = some [.nilfn] := by kernel_rfl
@[simp] theorem Try.zl37 : zlen Try.prog 37 = 1 := by kernel_rfl
@[simp] theorem Try.cells38 : Try.prog.cellsOf 38 = 1 := by kernel_rfl
@[simp] theorem Try.bytes38 : Try.prog.bytesOf 38 = 8 := by kernel_rfl
@[simp] theorem Try.zc38 : zcells Try.prog 38 = some [.nilfn] := by kernel_rfl
@[simp] theorem Try.zl38 : zlen Try.prog 38 = 1 := by kernel_rfl
@[simp] theorem Try.cells39 : Try.prog.cellsOf 39 = 1 := by kernel_rfl
@[simp] theorem Try.bytes39 : Try.prog.bytesOf 39 = 8 := by kernel_rfl
@[simp] theorem Try.zc39 : zcells Try.prog 39 = some [.nilfn] := by kernel_rfl
@[simp] theorem Try.zl39 : zlen Try.prog 39 = 1 := by kernel_rfl
@[simp] theorem Try.cells40 : Try.prog.cellsOf 40 = 1 := by kernel_rfl
@[simp] theorem Try.bytes40 : Try.prog.bytesOf 40 = 8 := by kernel_rfl
@[simp] theorem Try.zc40 : zcells Try.prog 40 = some [.nilfn] := by kernel_rfl
@[simp] theorem Try.zl40 : zlen Try.prog 40 = 1 := by kernel_rfl
@[simp] theorem Try.cells41 : Try.prog.cellsOf 41 = 1 := by kernel_rfl
@[simp] theorem Try.bytes41 : Try.prog.bytesOf 41 = 8 := by kernel_rfl
@[simp] theorem Try.zc41 : zcells Try.prog 41 = some [.nilfn] := by kernel_rfl
@[simp] theorem Try.zl41 : zlen Try.prog 41 = 1 := by kernel_rfl
@[simp] theorem Try.cells42 : Try.prog.cellsOf 42 = 1 := by kernel_rfl
@[simp] theorem Try.bytes42 : Try.prog.bytesOf 42 = 8 := by kernel_rfl
@[simp] theorem Try.zc42 : zcells Try.prog 42 = some [.nilfn] := by kernel_rfl
@[simp] theorem Try.zl42 : zlen Try.prog 42 = 1 := by kernel_rfl
@[simp] theorem Try.cells43 : Try.prog.cellsOf 43 = 4 := by kernel_rfl
@[simp] theorem Try.bytes43 : Try.prog.bytesOf 43 = 32 := by kernel_rfl
@[simp] theorem Try.zc43 : zcells Try.prog 43 = some [.int .u64 0, .int .u64 0, .int .u64 0, .int .u64 0] := by kernel_rfl
@[simp] theorem Try.zl43 : zlen Try.prog 43 = 4 := by kernel_rfl
@[simp] theorem Try.eqa43 (x0 y0 : Int) (x1 y1 : Int) (x2 y2 : Int) (x3 y3 : Int) : EqA Try.prog 43 [.int .u64 x0, .int .u64 x1, .int .u64 x2, .int .u64 x3] [.int .u64 y0, .int .u64 y1, .int .u64 y2, .int .u64 y3] :=
  EqA_of (l := [.int .u64, .int .u64, .int .u64, .int .u64]) 6 (by kernel_rfl) (by kernel_rfl) (by kernel_rfl) (by kernel_rfl) (by omega) (by simp [LSS, SSh]) (by simp [LSS, SSh])
@[simp] theorem Try.cells44 : Try.prog.cellsOf 44 = 4 := by kernel_rfl
@[simp] theorem Try.bytes44 : Try.prog.bytesOf 44 = 32 := by kernel_rfl
@[simp] theorem Try.zc44 : zcells Try.prog 44 = some [.int .u64 0, .int .u64 0, .int .u64 0, .int .u64 0] := by kernel_rfl
@[simp] theorem Try.zl44 : zlen Try.prog 44 = 4 := by kernel_rfl
@[simp] theorem Try.eqa44 (x0 y0 : Int) (x1 y1 : Int) (x2 y2 : Int) (x3 y3 : Int) : EqA Try.prog 44 [.int .u64 x0, .int .u64 x1, .int .u64 x2, .int .u64 x3] [.int .u64 y0, .int .u64 y1, .int .u64 y2, .int .u64 y3] :=
  EqA_of (l := [.int .u64, .int .u64, .int .u64, .int .u64]) 6 (by kernel_rfl) (by kernel_rfl) (by kernel_rfl) (by kernel_rfl) (by omega) (by simp [LSS, SSh]) (by simp [LSS, SSh])
@[simp] theorem Try.cells46 : Try.prog.cellsOf 46 = 1 := by kernel_rfl
@[simp] theorem Try.bytes46 : Try.prog.bytesOf 46 = 8 := by kernel_rfl
@[simp] theorem Try.zc46 : zcells Try.prog 46 = some [.nilfn] := by kernel_rfl
@[simp] theorem Try.zl46 : zlen Try.prog 46 = 1 := by kernel_rfl
@[simp] theorem Try.cells48 : Try.prog.cellsOf 48 = 1 := by kernel_rfl
@[simp] theorem Try.bytes48 : Try.prog.bytesOf 48 = 8 := by kernel_rfl
@[simp] theorem Try.zc48 : zcells Try.prog 48 = some [.nilfn] := by kernel_rfl
@[simp] theorem Try.zl48 : zlen Try.prog 48 = 1 := by kernel_rfl
@[simp] theorem Try.cells49 : Try.prog.cellsOf 49 = 1 := by kernel_rfl
@[simp] theorem Try.bytes49 : Try.prog.bytesOf 49 = 24 := by kernel_rfl
@[simp] theorem Try.zc49 : zcells Try.prog 49 = some [.nils] := by kernel_rfl
@[simp] theorem Try.zl49 : zlen Try.prog 49 = 1 := by kernel_rfl
@[simp] theorem Try.cells51 : Try.prog.cellsOf 51 = 1 := by kernel_rfl
@[simp] theorem Try.bytes51 : Try.prog.bytesOf 51 = 8 := by kernel_rfl
@[simp] theorem Try.zc51 : zcells Try.prog 51 = some [.nilfn] := by kernel_rfl
@[simp] theorem Try.zl51 : zlen Try.prog 51 = 1 := by kernel_rfl
@[simp] theorem Try.cells53 : Try.prog.cellsOf 53 = 1 := by kernel_rfl
@[simp] theorem Try.bytes53 : Try.prog.bytesOf 53 = 8 := by kernel_rfl
@[simp] theorem Try.zc53 : zcells Try.prog 53 = some [.nilfn] := by kernel_rfl
@[simp] theorem Try.zl53 : zlen Try.prog 53 = 1 := by kernel_rfl
@[simp] theorem Try.cells54 : Try.prog.cellsOf 54 = 1 := by kernel_rfl
@[simp] theorem Try.bytes54 : Try.prog.bytesOf 54 = 8 := by kernel_rfl
@[simp] theorem Try.zc54 : zcells Try.prog 54 = some [.nilfn] := by kernel_rfl
@[simp] theorem Try.zl54 : zlen Try.prog 54 = 1 := by kernel_rfl
@[simp] theorem Try.cells56 : Try.prog.cellsOf 56 = 1 := by kernel_rfl
@[simp] theorem Try.bytes56 : Try.prog.bytesOf 56 = 8 := by kernel_rfl
@[simp] theorem Try.zc56 : zcells Try.prog 56 = some [.nilfn] := by kernel_rfl
@[simp] theorem Try.zl56 : zlen Try.prog 56 = 1 := by kernel_rfl
@[simp] theorem Try.cells57 : Try.prog.cellsOf 57 = 1 := by kernel_rfl
@[simp] theorem Try.bytes57 : Try.prog.bytesOf 57 = 8 := by kernel_rfl
@[simp] theorem Try.zc57 : zcells Try.prog 57 = some [.nilfn] := by kernel_rfl
@[simp] theorem Try.zl57 : zlen Try.prog 57 = 1 := by kernel_rfl
@[simp] theorem Try.cells58 : Try.prog.cellsOf 58 = 1 := by kernel_rfl
@[simp] theorem Try.bytes58 : Try.prog.bytesOf 58 = 8 := by kernel_rfl
@[simp] theorem Try.zc58 : zcells Try.prog 58 = some [.nilfn] := by kernel_rfl
@[simp] theorem Try.zl58 : zlen Try.prog 58 = 1 := by kernel_rfl
@[simp] theorem Try.cells59 : Try.prog.cellsOf 59 = 1 := by kernel_rfl
@[simp] theorem Try.bytes59 : Try.prog.bytesOf 59 = 8 := by kernel_rfl
@[simp] theorem Try.zc59 : zcells Try.prog 59 = some [.nilfn] := by kernel_rfl
@[simp] theorem Try.zl59 : zlen Try.prog 59 = 1 := by kernel_rfl
@[simp] theorem Try.cells60 : Try.prog.cellsOf 60 = 1 := by kernel_rfl
@[simp] theorem Try.bytes60 : Try.prog.bytesOf 60 = 8 := by kernel_rfl
@[simp] theorem Try.zc60 : zcells Try.prog 60 = some [.nilfn] := by kernel_rfl
@[simp] theorem Try.zl60 : zlen Try.prog 60 = 1 := by kernel_rfl
@[simp] theorem Try.cells61 : Try.prog.cellsOf 61 = 1 := by kernel_rfl
@[simp] theorem Try.bytes61 : Try.prog.bytesOf 61 = 8 := by kernel_rfl
@[simp] theorem Try.zc61 : zcells Try.prog 61 = some [.nilfn] := by kernel_rfl
@[simp] theorem Try.zl61 : zlen Try.prog 61 = 1 := by kernel_rfl
@[simp] theorem Try.cells62 : Try.prog.cellsOf 62 = 1 := by kernel_rfl
@[simp] theorem Try.bytes62 : Try.prog.bytesOf 62 = 24 := by kernel_rfl
@[simp] theorem Try.zc62 : zcells Try.prog 62 = some [.nils] := by kernel_rfl
@[simp] theorem Try.zl62 : zlen Try.prog 62 = 1 := by kernel_rfl
@[simp] theorem Try.cells63 : Try.prog.cellsOf 63 = 1 := by kernel_rfl
@[simp] theorem Try.bytes63 : Try.prog.bytesOf 63 = 8 := by kernel_rfl
@[simp] theorem Try.zc63 : zcells Try.prog 63 = some [.nilfn] := by kernel_rfl
@[simp] theorem Try.zl63 : zlen Try.prog 63 = 1 := by kernel_rfl
@[simp] theorem Try.cells64 : Try.prog.cellsOf 64 = 1 := by kernel_rfl
@[simp] theorem Try.bytes64 : Try.prog.bytesOf 64 = 8 := by kernel_rfl
@[simp] theorem Try.zc64 : zcells Try.prog 64 = some [.nilfn] := by kernel_rfl
@[simp] theorem Try.zl64 : zlen Try.prog 64 = 1 := by kernel_rfl
@[simp] theorem Try.cells65 : Try.prog.cellsOf 65 = 1 := by kernel_rfl
@[simp] theorem Try.bytes65 : Try.prog.bytesOf 65 = 8 := by kernel_rfl
@[simp] theorem Try.zc65 : zcells Try.prog 65 = some [.nilfn] := by kernel_rfl
@[simp] theorem Try.zl65 : zlen Try.prog 65 = 1 := by kernel_rfl
@[simp] theorem Try.cells66 : Try.prog.cellsOf 66 = 1 := by kernel_rfl
@[simp] theorem Try.bytes66 : Try.prog.bytesOf 66 = 8 := by kernel_rfl
@[simp] theorem Try.zc66 : zcells Try.prog 66 = some [.nilfn] := by kernel_rfl
@[simp] theorem Try.zl66 : zlen Try.prog 66 = 1 := by kernel_rfl
@[simp] theorem Try.cells67 : Try.prog.cellsOf 67 = 1 := by kernel_rfl
@[simp] theorem Try.bytes67 : Try.prog.bytesOf 67 = 8 := by kernel_rfl
@[simp] theorem Try.zc67 : zcells Try.prog 67 = some [.nilfn] := by kernel_rfl
@[simp] theorem Try.zl67 : zlen Try.prog 67 = 1 := by kernel_rfl
@[simp] theorem Try.cells68 : Try.prog.cellsOf 68 = 1 := by kernel_rfl
@[simp] theorem Try.bytes68 : Try.prog.bytesOf 68 = 8 := by kernel_rfl
@[simp] theorem Try.zc68 : zcells Try.prog 68 = some [.nilfn] := by kernel_rfl
@[simp] theorem Try.zl68 : zlen Try.prog 68 = 1 := by kernel_rfl
@[simp] theorem Try.cells69 : Try.prog.cellsOf 69 = 1 := by kernel_rfl
@[simp] theorem Try.bytes69 : Try.prog.bytesOf 69 = 8 := by kernel_rfl
@[simp] theorem Try.zc69 : zcells Try.prog 69 = some [.nilfn] := by kernel_rfl
@[simp] theorem Try.zl69 : zlen Try.prog 69 = 1 := by kernel_rfl
@[simp] theorem Try.cells70 : Try.prog.cellsOf 70 = 1 := by kernel_rfl
@[simp] theorem Try.bytes70 : Try.prog.bytesOf 70 = 8 := by kernel_rfl
@[simp] theorem Try.zc70 : zcells Try.prog 70 = some [.nilfn] := by kernel_rfl
@[simp] theorem Try.zl70 : zlen Try.prog 70 = 1 := by kernel_rfl
@[simp] theorem Try.cells71 : Try.prog.cellsOf 71 = 1 := by kernel_rfl
@[simp] theorem Try.bytes71 : Try.prog.bytesOf 71 = 8 := by kernel_rfl
@[simp] theorem Try.zc71 : zcells Try.prog 71 = some [.nilfn] := by kernel_rfl
@[simp] theorem Try.zl71 : zlen Try.prog 71 = 1 := by kernel_rfl
@[simp] theorem Try.cells72 : Try.prog.cellsOf 72 = 1 := by kernel_rfl
@[simp] theorem Try.bytes72 : Try.prog.bytesOf 72 = 1 := by kernel_rfl
@[simp] theorem Try.zc72 : zcells Try.prog 72 = some [.int .u8 0] := by kernel_rfl
@[simp] theorem Try.zl72 : zlen Try.prog 72 = 1 := by kernel_rfl
@[simp] theorem Try.cells73 : Try.prog.cellsOf 73 = 5 := by kernel_rfl
@[simp] theorem Try.bytes73 : Try.prog.bytesOf 73 = 40 := by kernel_rfl
@[simp] theorem Try.zc73 : zcells Try.prog 73 = some [.int .u8 0, .int .u64 0, .int .u64 0, .int .u64 0, .int .u64 0] := by kernel_rfl
@[simp] theorem Try.zl73 : zlen Try.prog 73 = 5 := by kernel_rfl
@[simp] theorem Try.eqa73 (x0 y0 : Int) (x1 y1 : Int) (x2 y2 : Int) (x3 y3 : Int) (x4 y4 : Int) : EqA Try.prog 73 [.int .u8 x0, .int .u64 x1, .int .u64 x2, .int .u64 x3, .int .u64 x4] [.int .u8 y0, .int .u64 y1, .int .u64 y2, .int .u64 y3, .int .u64 y4] :=
  EqA_of (l := [.int .u8, .int .u64, .int .u64, .int .u64, .int .u64]) 6 (by kernel_rfl) (by kernel_rfl) (by kernel_rfl) (by kernel_rfl) (by omega) (by simp [LSS, SSh]) (by simp [LSS, SSh])
@[simp] theorem Try.cells74 : Try.prog.cellsOf 74 = 5 := by kernel_rfl
@[simp] theorem Try.bytes74 : Try.prog.bytesOf 74 = 40 := by kernel_rfl
@[simp] theorem Try.zc74 : zcells Try.prog 74 = some [.int .u8 0, .int .u64 0, .int .u64 0, .int .u64 0, .int .u64 0] := by kernel_rfl
@[simp] theorem Try.zl74 : zlen Try.prog 74 = 5 := by kernel_rfl
@[simp] theorem Try.eqa74 (x0 y0 : Int) (x1 y1 : Int) (x2 y2 : Int) (x3 y3 : Int) (x4 y4 : Int) : EqA Try.prog 74 [.int .u8 x0, .int .u64 x1, .int .u64 x2, .int .u64 x3, .int .u64 x4] [.int .u8 y0, .int .u64 y1, .int .u64 y2, .int .u64 y3, .int .u64 y4] :=
  EqA_of (l := [.int .u8, .int .u64, .int .u64, .int .u64, .int .u64]) 6 (by kernel_rfl) (by kernel_rfl) (by kernel_rfl) (by kernel_rfl) (by omega) (by simp [LSS, SSh]) (by simp [LSS, SSh])
@[simp] theorem Try.cells75 : Try.prog.cellsOf 75 = 1 := by kernel_rfl
@[simp] theorem Try.bytes75 : Try.prog.bytesOf 75 = 8 := by kernel_rfl
@[simp] theorem Try.zc75 : zcells Try.prog 75 = some [.nilfn] := by kernel_rfl
@[simp] theorem Try.zl75 : zlen Try.prog 75 = 1 := by kernel_rfl
@[simp] theorem Try.cells76 : Try.prog.cellsOf 76 = 1 := by kernel_rfl
@[simp] theorem Try.bytes76 : Try.prog.bytesOf 76 = 8 := by kernel_rfl
@[simp] theorem Try.zc76 : zcells Try.prog 76 = some [.nilfn] := by kernel_rfl
@[simp] theorem Try.zl76 : zlen Try.prog 76 = 1 := by kernel_rfl
@[simp] theorem Try.cells78 : Try.prog.cellsOf 78 = 1 := by kernel_rfl
@[simp] theorem Try.bytes78 : Try.prog.bytesOf 78 = 8 := by kernel_rfl
@[simp] theorem Try.zc78 : zcells Try.prog 78 = some [.nilfn] := by kernel_rfl
@[simp] theorem Try.zl78 : zlen Try.prog 78 = 1 := by kernel_rfl
@[simp] theorem Try.cells79 : Try.prog.cellsOf 79 = 1 := by kernel_rfl
@[simp] theorem Try.bytes79 : Try.prog.bytesOf 79 = 8 := by kernel_rfl
@[simp] theorem Try.zc79 : zcells Try.prog 79 = some [.nilfn] := by kernel_rfl
@[simp] theorem Try.zl79 : zlen Try.prog 79 = 1 := by kernel_rfl
@[simp] theorem Try.cells80 : Try.prog.cellsOf 80 = 1 := by kernel_rfl
@[simp] theorem Try.bytes80 : Try.prog.bytesOf 80 = 8 := by kernel_rfl
@[simp] theorem Try.zc80 : zcells Try.prog 80 = some [.nilfn] := by kernel_rfl
@[simp] theorem Try.zl80 : zlen Try.prog 80 = 1 := by kernel_rfl
@[simp] theorem Try.cells81 : Try.prog.cellsOf 81 = 1 := by kernel_rfl
@[simp] theorem Try.bytes81 : Try.prog.bytesOf 81 = 8 := by kernel_rfl
@[simp] theorem Try.zc81 : zcells Try.prog 81 = some [.nilfn] := by kernel_rfl
@[simp] theorem Try.zl81 : zlen Try.prog 81 = 1 := by kernel_rfl
@[simp] theorem Try.cells82 : Try.prog.cellsOf 82 = 1 := by kernel_rfl
@[simp] theorem Try.bytes82 : Try.prog.bytesOf 82 = 8 := by kernel_rfl
@[simp] theorem Try.zc82 : zcells Try.prog 82 = some [.nilfn] := by kernel_rfl
@[simp] theorem Try.zl82 : zlen Try.prog 82 = 1 := by kernel_rfl
@[simp] theorem Try.cells83 : Try.prog.cellsOf 83 = 1 := by kernel_rfl
@[simp] theorem Try.bytes83 : Try.prog.bytesOf 83 = 8 := by kernel_rfl
@[simp] theorem Try.zc83 : zcells Try.prog 83 = some [.nilfn] := by kernel_rfl
@[simp] theorem Try.zl83 : zlen Try.prog 83 = 1 := by kernel_rfl
@[simp] theorem Try.cells84 : Try.prog.cellsOf 84 = 1 := by kernel_rfl
@[simp] theorem Try.bytes84 : Try.prog.bytesOf 84 = 8 := by kernel_rfl
@[simp] theorem Try.zc84 : zcells Try.prog 84 = some [.nilfn] := by kernel_rfl
@[simp] theorem Try.zl84 : zlen Try.prog 84 = 1 := by kernel_rfl
@[simp] theorem Try.cells85 : Try.prog.cellsOf 85 = 1 := by kernel_rfl
@[simp] theorem Try.bytes85 : Try.prog.bytesOf 85 = 8 := by kernel_rfl
@[simp] theorem Try.zc85 : zcells Try.prog 85 = some [.nilfn] := by kernel_rfl
@[simp] theorem Try.zl85 : zlen Try.prog 85 = 1 := by kernel_rfl
@[simp] theorem Try.cells86 : Try.prog.cellsOf 86 = 1 := by kernel_rfl
@[simp] theorem Try.bytes86 : Try.prog.bytesOf 86 = 8 := by kernel_rfl
@[simp] theorem Try.zc86 : zcells Try.prog 86 = some [.nilfn] := by kernel_rfl
@[simp] theorem Try.zl86 : zlen Try.prog 86 = 1 := by kernel_rfl
@[simp] theorem Try.cells87 : Try.prog.cellsOf 87 = 4 := by kernel_rfl
@[simp] theorem Try.bytes87 : Try.prog.bytesOf 87 = 40 := by kernel_rfl
@[simp] theorem Try.zc87 : zcells Try.prog 87 = some [.nilp, .nilp, .nilp, .str ByteArray.empty] := by kernel_rfl
@[simp] theorem Try.zl87 : zlen Try.prog 87 = 4 := by kernel_rfl
@[simp] theorem Try.cells88 : Try.prog.cellsOf 88 = 4 := by kernel_rfl
@[simp] theorem Try.bytes88 : Try.prog.bytesOf 88 = 40 := by kernel_rfl
@[simp] theorem Try.zc88 : zcells Try.prog 88 = some [.nilp, .nilp, .nilp, .str ByteArray.empty] := by kernel_rfl
@[simp] theorem Try.zl88 : zlen Try.prog 88 = 4 := by kernel_rfl
@[simp] theorem Try.cells89 : Try.prog.cellsOf 89 = 0 := by kernel_rfl
@[simp] theorem Try.bytes89 : Try.prog.bytesOf 89 = 0 := by kernel_rfl
@[simp] theorem Try.zc89 : zcells Try.prog 89 = some [] := by kernel_rfl
@[simp] theorem Try.zl89 : zlen Try.prog 89 = 0 := by kernel_rfl
@[simp] theorem Try.cells90 : Try.prog.cellsOf 90 = 0 := by kernel_rfl
@[simp] theorem Try.bytes90 : Try.prog.bytesOf 90 = 0 := by kernel_rfl
@[simp] theorem Try.zc90 : zcells Try.prog 90 = some [] := by kernel_rfl
@[simp] theorem Try.zl90 : zlen Try.prog 90 = 0 := by kernel_rfl
@[simp] theorem Try.cells91 : Try.prog.cellsOf 91 = 0 := by kernel_rfl
@[simp] theorem Try.bytes91 : Try.prog.bytesOf 91 = 0 := by kernel_rfl
@[simp] theorem Try.zc91 : zcells Try.prog 91 = some [] := by kernel_rfl
@[simp] theorem Try.zl91 : zlen Try.prog 91 = 0 := by kernel_rfl
@[simp] theorem Try.cells92 : Try.prog.cellsOf 92 = 1 := by kernel_rfl
@[simp] theorem Try.bytes92 : Try.prog.bytesOf 92 = 4 := by kernel_rfl
@[simp] theorem Try.zc92 : zcells Try.prog 92 = some [.int .u32 0] := by kernel_rfl
@[simp] theorem Try.zl92 : zlen Try.prog 92 = 1 := by kernel_rfl
@[simp] theorem Try.cells93 : Try.prog.cellsOf 93 = 1 := by kernel_rfl
@[simp] theorem Try.bytes93 : Try.prog.bytesOf 93 = 1 := by kernel_rfl
@[simp] theorem Try.zc93 : zcells Try.prog 93 = some [.int .u8 0] := by kernel_rfl
@[simp] theorem Try.zl93 : zlen Try.prog 93 = 1 := by kernel_rfl
@[simp] theorem Try.cells94 : Try.prog.cellsOf 94 = 1 := by kernel_rfl
@[simp] theorem Try.bytes94 : Try.prog.bytesOf 94 = 1 := by kernel_rfl
@[simp] theorem Try.zc94 : zcells Try.prog 94 = some [.int .u8 0] := by kernel_rfl
@[simp] theorem Try.zl94 : zlen Try.prog 94 = 1 := by kernel_rfl
@[simp] theorem Try.cells95 : Try.prog.cellsOf 95 = 1 := by kernel_rfl
@[simp] theorem Try.bytes95 : Try.prog.bytesOf 95 = 8 := by kernel_rfl
@[simp] theorem Try.zc95 : zcells Try.prog 95 = some [.nilfn] := by kernel_rfl
@[simp] theorem Try.zl95 : zlen Try.prog 95 = 1 := by kernel_rfl
@[simp] theorem Try.cells96 : Try.prog.cellsOf 96 = 1 := by kernel_rfl
@[simp] theorem Try.bytes96 : Try.prog.bytesOf 96 = 8 := by kernel_rfl
@[simp] theorem Try.zc96 : zcells Try.prog 96 = some [.nilp] := by kernel_rfl
@[simp] theorem Try.zl96 : zlen Try.prog 96 = 1 := by kernel_rfl
@[simp] theorem Try.cells97 : Try.prog.cellsOf 97 = 1 := by kernel_rfl
@[simp] theorem Try.bytes97 : Try.prog.bytesOf 97 = 4 := by kernel_rfl
@[simp] theorem Try.zc97 : zcells Try.prog 97 = some [.int .i32 0] := by kernel_rfl
@[simp] theorem Try.zl97 : zlen Try.prog 97 = 1 := by kernel_rfl
@[simp] theorem Try.cells98 : Try.prog.cellsOf 98 = 1 := by kernel_rfl
@[simp] theorem Try.bytes98 : Try.prog.bytesOf 98 = 4 := by kernel_rfl
@[simp] theorem Try.zc98 : zcells Try.prog 98 = some [.int .i32 0] := by kernel_rfl
@[simp] theorem Try.zl98 : zlen Try.prog 98 = 1 := by kernel_rfl
@[simp] theorem Try.cells99 : Try.prog.cellsOf 99 = 11 := by kernel_rfl
@[simp] theorem Try.bytes99 : Try.prog.bytesOf 99 = 48 := by kernel_rfl
@[simp] theorem Try.zc99 : zcells Try.prog 99 = some [.int .u64 0, .int .u64 0, .int .u32 0, .int .u8 0, .int .u8 0, .int .u8 0, .int .u8 0, .nilfn, .nilp, .int .i32 0, .int .i32 0] := by kernel_rfl
@[simp] theorem Try.zl99 : zlen Try.prog 99 = 11 := by kernel_rfl
@[simp] theorem Try.cells100 : Try.prog.cellsOf 100 = 11 := by kernel_rfl
@[simp] theorem Try.bytes100 : Try.prog.bytesOf 100 = 48 := by kernel_rfl
@[simp] theorem Try.zc100 : zcells Try.prog 100 = some [.int .u64 0, .int .u64 0, .int .u32 0, .int .u8 0, .int .u8 0, .int .u8 0, .int .u8 0, .nilfn, .nilp, .int .i32 0, .int .i32 0] := by kernel_rfl
@[simp] theorem Try.zl100 : zlen Try.prog 100 = 11 := by kernel_rfl
@[simp] theorem Try.cells101 : Try.prog.cellsOf 101 = 1 := by kernel_rfl
@[simp] theorem Try.bytes101 : Try.prog.bytesOf 101 = 8 := by kernel_rfl
@[simp] theorem Try.zc101 : zcells Try.prog 101 = some [.nilp] := by kernel_rfl
@[simp] theorem Try.zl101 : zlen Try.prog 101 = 1 := by kernel_rfl

theorem mixed : Try.prog.follows .mixedOrders = true := by kernel_rfl
instance : Gl Try.prog := ⟨fun _ => .junk, fun _ => rfl⟩

end Go.Proofs.Ytpcblologcindaa.AL
namespace Go.Proofs.Ytpcblologcindaa.AL
open Go
attribute [local simp] qf cv qbin ibin sbin qun retPost rvOk ctV ctPost marksOk retV resAll resOf V.lt ltL V.ren renL V.exp cleanL V.clean closedL V.closed V.cells V.one V.tree
  loadV cellsAt isAggD placesOf fillV putCells lstore bound seqParts V.sh shL Blk.sh newV V.ok peqs peq srcRows appOk V.fz fzL Blk.fz fzOk and_assoc
attribute [-simp] Int.not_le Int.not_lt Nat.not_le Nat.not_lt
def cAddr (f h l : Int) : Bool := f == 6 || (f == 4 && h == 0 && decide (l < 4294967296))
def wid (f : Int) : Int := if f = 4 then 32 else if f = 6 then 128 else 0
def SWid : List V → Option Res
  | [.int .u8 f] => some ⟨.int .i64 (wid f), []⟩
  | _ => none
def SAddr : List V → Option Res
  | [.int .u8 f, .agg [.int .u64 h, .int .u64 l]] => some ⟨.bool (cAddr f h l), []⟩
  | _ => none
theorem runs_number_width : ∀ args r, SWid args = some r → Runs Try.prog 30 args r := by
  intro args r h
  unfold SWid at h
  split at h
  · rename_i f
    cases h
    refine Runs.of_body Try.func30 (by decide) rfl (by simp [Try.f30]) (W.of_WE (T0_ok _) (by kernel_rfl) M0 _ (by kernel_rfl) ?_)
    simp +contextual [Try.f30, wid]
    try grind
  · cases h
theorem runs_ref01_Width : ∀ args r, SWid args = some r → Runs Try.prog 31 args r := by
  intro args r h
  unfold SWid at h
  split at h
  · rename_i f
    cases h
    refine Runs.of_body Try.func31 (by decide) rfl (by simp [Try.f31]) (W.of_WE (T0_ok _) (by kernel_rfl) M0 _ (by kernel_rfl) ?_)
    simp +contextual [Try.f31, wid]
    try grind
  · cases h
theorem runs_number_CheckAddr : ∀ args r, SAddr args = some r → Runs Try.prog 11 args r := by
  intro args r h
  unfold SAddr at h
  split at h
  · rename_i f h l
    cases h
    refine Runs.of_body Try.func11 (by decide) rfl (by simp [Try.f11]) (W.of_WE (T0_ok _) (by kernel_rfl) M0 _ (by kernel_rfl) ?_)
    simp +contextual [Try.f11, cAddr]
    try grind
  · cases h
theorem runs_ref01_CheckAddr : ∀ args r, SAddr args = some r → Runs Try.prog 12 args r := by
  intro args r h
  unfold SAddr at h
  split at h
  · rename_i f h l
    cases h
    refine Runs.of_body Try.func12 (by decide) rfl (by simp [Try.f12]) (W.of_WE (T0_ok _) (by kernel_rfl) M0 _ (by kernel_rfl) ?_)
    simp +contextual [Try.f12, cAddr]
    try grind
  · cases h

end Go.Proofs.Ytpcblologcindaa.AL
namespace Go.Proofs.Ytpcblologcindaa.AL
open Go
attribute [local simp] qf cv qbin ibin sbin qun retPost rvOk ctV ctPost marksOk retV resAll resOf V.lt ltL V.ren renL V.exp cleanL V.clean closedL V.closed V.cells V.one V.tree
  loadV cellsAt isAggD placesOf fillV putCells lstore bound seqParts V.sh shL Blk.sh newV V.ok peqs peq srcRows appOk V.fz fzL Blk.fz fzOk and_assoc
attribute [-simp] Int.not_le Int.not_lt Nat.not_le Nat.not_lt
def goodC (c : Int) : Bool := (decide (97 ≤ c) && decide (c ≤ 122)) || (decide (65 ≤ c) && decide (c ≤ 90)) || (decide (48 ≤ c) && decide (c ≤ 57)) || decide (c = 45) || decide (c = 95)
def SGood : List V → Option Res
  | [.int .u8 c] => some ⟨.bool (goodC c), []⟩
  | _ => none
theorem runs_number_Name_1 : ∀ args r, SGood args = some r → Runs Try.prog 36 args r := by
  intro args r h
  unfold SGood at h
  split at h
  · rename_i c
    cases h
    refine Runs.of_body Try.func36 (by decide) rfl (by simp [Try.f36]) (W.of_WE (T0_ok _) (by kernel_rfl) M0 _ (by kernel_rfl) ?_)
    simp +contextual (maxSteps := 1000000) [Try.f36]
    simp [goodC]
    repeat' (first | apply And.intro | intro _)
    all_goals (first | omega | (apply propext; omega))
  · cases h
def SNan : List V → Option Res
  | [.int .u64 c] => some ⟨.bool false, []⟩
  | _ => none
theorem runs_cmp_isNaN_uint64_ : ∀ args r, SNan args = some r → Runs Try.prog 45 args r := by
  intro args r h
  unfold SNan at h
  split at h
  · rename_i c
    cases h
    refine Runs.of_body Try.func45 (by decide) rfl (by simp [Try.f45]) (W.of_WE (T0_ok _) (by kernel_rfl) M0 _ (by kernel_rfl) ?_)
    simp +contextual [Try.f45]
  · cases h
def cmpI (a b : Int) : Int := if a < b then -1 else if a > b then 1 else 0
def SCmp : List V → Option Res
  | [.int .u64 a, .int .u64 b] => some ⟨.int .i64 (cmpI a b), []⟩
  | _ => none
theorem runs_cmp_Compare_uint64_ : ∀ args r, SCmp args = some r → Runs Try.prog 37 args r := by
  intro args r h
  unfold SCmp at h
  split at h
  · rename_i c
    cases h
    refine Runs.of_body Try.func37 (by decide) rfl (by simp [Try.f37]) (W.of_WE (T := T0.add 45 SNan) (Tab.add_ok (T0_ok _) runs_cmp_isNaN_uint64_) (by kernel_rfl) M0 _ (by kernel_rfl) ?_)
    simp +contextual [Try.f37, SNan]
    simp only [cmpI]
    grind
  · cases h
def cmpA (a b c d : Int) : Int := if a = c ∧ b = d then 0 else if a < c ∨ (a = c ∧ b < d) then -1 else 1
def SCompare : List V → Option Res
  | [.agg [.int .u64 a, .int .u64 b], .agg [.int .u64 c, .int .u64 d]] => some ⟨.int .i64 (cmpA a b c d), []⟩
  | _ => none
theorem runs_number_Compare : ∀ args r, SCompare args = some r → Runs Try.prog 13 args r := by
  intro args r h
  unfold SCompare at h
  split at h
  · rename_i c
    cases h
    refine Runs.of_body Try.func13 (by decide) rfl (by simp [Try.f13]) (W.of_WE (T := T0.add 37 SCmp) (Tab.add_ok (T0_ok _) runs_cmp_Compare_uint64_) (by kernel_rfl) M0 _ (by kernel_rfl) ?_)
    simp +contextual [Try.f13, SCmp]
    simp only [cmpI, cmpA]
    grind
  · cases h
theorem runs_ref01_Compare : ∀ args r, SCompare args = some r → Runs Try.prog 14 args r := by
  intro args r h
  unfold SCompare at h
  split at h
  · rename_i c
    cases h
    refine Runs.of_body Try.func14 (by decide) rfl (by simp [Try.f14]) (W.of_WE (T0_ok _) (by kernel_rfl) M0 _ (by kernel_rfl) ?_)
    simp +contextual (maxSteps := 1000000) [Try.f14]
    simp only [cmpA]
    grind
  · cases h

end Go.Proofs.Ytpcblologcindaa.AL
namespace Go.Proofs.Ytpcblologcindaa.AL
open Go
attribute [local simp] qf cv qbin ibin sbin qun retPost rvOk ctV ctPost marksOk retV resAll resOf V.lt ltL V.ren renL V.exp cleanL V.clean closedL V.closed V.cells V.one V.tree
  loadV cellsAt isAggD placesOf fillV putCells lstore bound seqParts V.sh shL Blk.sh newV V.ok peqs peq srcRows appOk V.fz fzL Blk.fz fzOk and_assoc
attribute [-simp] Int.not_le Int.not_lt Nat.not_le Nat.not_lt
def nameS (s : ByteArray) : Bool := (decide (1 ≤ s.size) && decide (s.size ≤ 40)) && (List.range s.size).all fun i => goodC (sat s i)
theorem nameS_bad {s : ByteArray} {k : Nat} (hk : k < s.size) (h : goodC (sat s k) = false) : nameS s = false := by
  unfold nameS
  have : ((List.range s.size).all fun i => goodC (sat s i)) = false := by
    rw [List.all_eq_false]
    exact ⟨k, by simpa using hk, by simpa using h⟩
  rw [this, Bool.and_false]
theorem nameS_good {s : ByteArray} (h : ∀ i, i < s.size → goodC (sat s i) = true) : nameS s = (decide (1 ≤ s.size) && decide (s.size ≤ 40)) := by
  unfold nameS
  have : ((List.range s.size).all fun i => goodC (sat s i)) = true := by
    rw [List.all_eq_true]
    intro i hi
    exact h i (by simpa using hi)
  rw [this, Bool.and_true]
def SName : List V → Option Res
  | [.str s] => if s.size ≤ 9223372036854775807 then some ⟨.bool (nameS s), []⟩ else none
  | _ => none
theorem runs_number_Name : ∀ args r, SName args = some r → Runs Try.prog 9 args r := by
  intro args r h
  unfold SName at h
  split at h
  · rename_i s
    split at h
    · rename_i hs
      cases h
      have hT : (T0.add 36 SGood).ok Try.prog := Tab.add_ok (T0_ok _) runs_number_Name_1
      refine Runs.of_body Try.func9 (by decide) rfl (by simp [Try.f9]) ?_
      refine W.seqE hT mixed M0 (by kernel_rfl) ?_
      simp +contextual [Try.f9]
      refine W.seqE hT mixed M0 (by kernel_rfl) ?_
      simp +contextual [Try.f9]
      refine W.cut (∀ i, i < s.size → goodC (sat s i) = true) [(0, .str s)] [] 25 ?_ ?_
      · refine W.seqE hT mixed M0 (by kernel_rfl) ?_
        simp +contextual [Try.f9]
        refine W.block (W.for (fun k => ∀ i, i < k → goodC (sat s i) = true) (fun k => [(0, .str s), (3, .fn 36 [] []), (6, .int .i64 s.size), (7, .int .i64 k)]) (fun _ => []) 25 s.size (by simp) ?_ ?_)
        · simp
        · intro k hk hJ
          refine W.of_WE hT mixed M0 _ (by kernel_rfl) ?_
          simp +contextual [SGood, Try.f9]
          refine ⟨fun hlt => ⟨fun hg => (nameS_bad hlt hg), fun hg => ⟨fun i hi => ?_, ?_⟩⟩, fun hle i hi => hJ i (by omega)⟩
          · by_cases hik : i = k
            · subst hik; exact hg
            · exact hJ i (by omega)
          · rw [wrap_i64]; omega
      · intro hC
        refine W.of_WE hT mixed M0 _ (by kernel_rfl) ?_
        simp +contextual [Try.f9]
        rw [nameS_good hC]
        refine ⟨fun h => ?_, fun h => ?_⟩
        · have h1 : 1 ≤ s.size := by omega
          simp only [h1, decide_true, Bool.true_and, decide_eq_decide]
          omega
        · have h1 : ¬ 1 ≤ s.size := by omega
          simp only [h1, decide_false, Bool.false_and]
    · cases h
  · cases h

end Go.Proofs.Ytpcblologcindaa.AL
namespace Go.Proofs.Ytpcblologcindaa.AL
open Go
attribute [local simp] qf cv qbin ibin sbin qun retPost rvOk ctV ctPost marksOk retV resAll resOf V.lt ltL V.ren renL V.exp cleanL V.clean closedL V.closed V.cells V.one V.tree
  loadV cellsAt isAggD placesOf fillV putCells lstore bound seqParts V.sh shL Blk.sh newV V.ok peqs peq srcRows appOk V.fz fzL Blk.fz fzOk and_assoc
attribute [-simp] Int.not_le Int.not_lt Nat.not_le Nat.not_lt
theorem pow_lt64 {k : Nat} (h : k ≤ 63) : 2 ^ k ≤ 9223372036854775808 := by
  have := Nat.pow_le_pow_right (n := 2) (by omega) h
  simpa using this
def SPow : List V → Option Res
  | [.int .i64 n] => if 0 ≤ n ∧ n ≤ 63 then some ⟨.int .u64 (2 ^ n.toNat), []⟩ else none
  | _ => none
theorem runs_ref01_power : ∀ args r, SPow args = some r → Runs Try.prog 44 args r := by
  intro args r h
  unfold SPow at h
  split at h
  · rename_i n
    split at h
    · rename_i hn
      cases h
      obtain ⟨n, rfl⟩ : ∃ m : Nat, n = m := ⟨n.toNat, by omega⟩
      refine Runs.of_body Try.func44 (by decide) rfl (by simp [Try.f44]) ?_
      refine W.seqE (T0_ok _) mixed M0 (by kernel_rfl) ?_
      simp +contextual [Try.f44]
      refine W.seqE (T0_ok _) mixed M0 (by kernel_rfl) ?_
      simp +contextual [Try.f44]
      refine W.cut True [(3, .int .u64 (2 ^ n))] [] 14 ?_ ?_
      · refine W.seqE (T0_ok _) mixed M0 (by kernel_rfl) ?_
        simp +contextual [Try.f44]
        refine W.block (W.for (fun _ => True) (fun k => [(0, .int .i64 n), (3, .int .u64 (2 ^ k)), (4, .int .i64 k)]) (fun _ => []) 14 n trivial ?_ ?_)
        · simp
        · intro k hk _
          refine W.of_WE (T0_ok _) mixed M0 _ (by kernel_rfl) ?_
          simp +contextual
          refine ⟨fun hlt => ?_, fun hle => by rw [show k = n by omega]⟩
          have h1 := pow_lt64 (k := k) (by omega)
          have h2 : ((2 ^ k : Nat) : Int) = (2 : Int) ^ k := by push_cast; rfl
          have h3 : (2 : Int) ^ (k + 1) = 2 * 2 ^ k := by rw [Int.pow_succ, Int.mul_comm]
          have h4 : (0 : Int) < 2 ^ k := Int.pow_pos (by omega)
          have h5 : (2 : Int) ^ (k + 1) ≤ 9223372036854775808 := by
            have := pow_lt64 (k := k + 1) (by omega)
            rw [show (2 : Int) ^ (k + 1) = ((2 ^ (k + 1) : Nat) : Int) by push_cast; rfl]
            omega
          rw [wrap_u64, wrap_i64]
          generalize hp : (2 : Int) ^ k = p at *
          rw [h3] at h5 ⊢
          constructor <;> omega
      · intro _
        refine W.of_WE (T0_ok _) mixed M0 _ (by kernel_rfl) ?_
        simp +contextual [Try.f44]
    · cases h
  · cases h

end Go.Proofs.Ytpcblologcindaa.AL
namespace Go.Proofs.Ytpcblologcindaa.AL
open Go
attribute [local simp] qf cv qbin ibin sbin qun retPost rvOk ctV ctPost marksOk retV resAll resOf V.lt ltL V.ren renL V.exp cleanL V.clean closedL V.closed V.cells V.one V.tree
  loadV cellsAt isAggD placesOf fillV putCells lstore bound seqParts V.sh shL Blk.sh newV V.ok peqs peq srcRows appOk V.fz fzL Blk.fz fzOk and_assoc
attribute [-simp] Int.not_le Int.not_lt Nat.not_le Nat.not_lt
theorem size0 {s : ByteArray} (h : s.size = 0) : s = ByteArray.empty := by
  cases s with
  | mk d =>
    have : d = #[] := Array.eq_empty_of_size_eq_zero h
    subst this; rfl
theorem runs_ref01_Name : ∀ args r, SName args = some r → Runs Try.prog 10 args r := by
  intro args r h
  unfold SName at h
  split at h
  · rename_i s
    split at h
    · rename_i hs
      cases h
      have hT := T0_ok Try.prog
      refine Runs.of_body Try.func10 (by decide) rfl (by simp [Try.f10]) ?_
      refine W.seqE hT mixed M0 (by kernel_rfl) ?_
      simp +contextual [Try.f10]
      refine W.cut (1 ≤ s.size ∧ s.size ≤ 40) [(0, .str s)] [] 53 ?_ ?_
      · refine W.of_WE hT mixed M0 _ (by kernel_rfl) ?_
        simp +contextual [Try.f10]
        refine ⟨?_, fun h => ⟨fun h => ?_, fun h2 => ⟨?_, by omega⟩⟩⟩
        · rintro rfl; rfl
        · unfold nameS
          have : decide (s.size ≤ 40) = false := by simp; omega
          rw [this, Bool.and_false, Bool.false_and]
        · rcases Nat.eq_zero_or_pos s.size with h0 | h0
          · exact absurd (size0 h0) h
          · omega
      · intro hC
        refine W.cut (∀ i, i < s.size → goodC (sat s i) = true) [(0, .str s)] [] 53 ?_ ?_
        · refine W.seqE hT mixed M0 (by kernel_rfl) ?_
          simp +contextual [Try.f10]
          refine W.block (W.for (fun k => ∀ i, i < k → goodC (sat s i) = true) (fun k => [(0, .str s), (3, .int .i64 k)]) (fun _ => []) 53 s.size (by simp) ?_ ?_)
          · simp
          · intro k hk hJ
            refine W.of_WE hT mixed M0 _ (by kernel_rfl) ?_
            simp +contextual (maxSteps := 1000000) [Try.f10]
            refine ⟨fun hlt => ?_, fun hle i hi => hJ i (by omega)⟩
            have kt : goodC (sat s k) = true → (∀ (i : Nat), i < k + 1 → goodC (sat s ↑i) = true) := fun hg i hi => by
              by_cases hik : i = k
              · subst hik; exact hg
              · exact hJ i (by omega)
            have kw : IntKind.i64.wrap ((k : Int) + 1) = (k : Int) + 1 := by rw [wrap_i64]; omega
            have kf : goodC (sat s k) = false → nameS s = false := nameS_bad hlt
            generalize (∀ (i : Nat), i < k + 1 → goodC (sat s ↑i) = true) = J1 at *
            rw [kw]
            generalize sat s k = c at *
            generalize nameS s = nm at *
            clear hJ
            simp [goodC] at kt kf
            repeat' (first | apply And.intro | intro _)
            all_goals (first | rfl | exact kt (by omega) | exact kf (by omega) (by omega) (by omega) (by omega) (by omega))
        · intro hC
          refine W.of_WE hT mixed M0 _ (by kernel_rfl) ?_
          simp +contextual [Try.f10]
          rename_i hC0
          rw [nameS_good hC]
          simp
          omega
    · cases h
  · cases h

end Go.Proofs.Ytpcblologcindaa.AL
namespace Go.Proofs.Ytpcblologcindaa.AL
open Go
attribute [local simp] qf cv qbin ibin sbin qun retPost rvOk ctV ctPost marksOk retV resAll resOf V.lt ltL V.ren renL V.exp cleanL V.clean closedL V.closed V.cells V.one V.tree
  loadV cellsAt isAggD placesOf fillV putCells lstore bound seqParts V.sh shL Blk.sh newV V.ok peqs peq srcRows appOk V.fz fzL Blk.fz fzOk and_assoc
attribute [-simp] Int.not_le Int.not_lt Nat.not_le Nat.not_lt
def inA (h l : Int) : Prop := 0 ≤ h ∧ h ≤ 18446744073709551615 ∧ 0 ≤ l ∧ l ≤ 18446744073709551615
instance (h l : Int) : Decidable (inA h l) := by unfold inA; infer_instance
def widN (f : Int) : Nat := if f = 4 then 32 else if f = 6 then 128 else 0
theorem wid_N (f : Int) : wid f = widN f := by unfold wid widN; split; rfl; split <;> rfl
theorem widN_le (f : Int) : widN f ≤ 128 := by unfold widN; split; omega; split <;> omega
def SBits : List V → Option Res
  | [.int .u8 f, .agg [.int .u64 h, .int .u64 l]] => if inA h l then some ⟨.own 0, [.sl 1 3 (rg (widN f) fun i => bt h l (widN f - 1 - i))]⟩ else none
  | _ => none
theorem runs_ref01_Bits : ∀ args r, SBits args = some r → Runs Try.prog 32 args r := by
  intro args r h
  unfold SBits at h
  split at h
  · rename_i f h l
    split at h
    · rename_i hin
      cases h
      have hT : ((T0.add 31 SWid).add 44 SPow).ok Try.prog := Tab.add_ok (Tab.add_ok (T0_ok _) runs_ref01_Width) runs_ref01_power
      refine Runs.of_body Try.func32 (by decide) rfl (by simp [Try.f32]) ?_
      refine W.seqE hT mixed M0 (by kernel_rfl) ?_
      simp +contextual [Try.f32]
      refine W.seqE hT mixed M0 (by kernel_rfl) ?_
      simp +contextual [Try.f32]
      refine W.seqE hT mixed M0 (by kernel_rfl) ?_
      simp +contextual [Try.f32, SWid, wid_N]
      have hw := widN_le f
      generalize widN f = w at *
      refine W.wk (Wk.adopt 5 1 3 (by omega) (by simp)) ?_
      refine W.cut True [(5, .own 0)] [.sl 1 3 (rg w fun i => bt h l (w - 1 - i))] 39 ?_ ?_
      · refine W.seqE hT mixed M0 (by kernel_rfl) ?_
        simp +contextual [Try.f32]
        refine W.block (W.for (fun _ => True) (fun k => [(3, .ptr 0 0), (5, .own 1), (6, .int .i64 w), (7, .int .i64 k)]) (fun k => [.box 24 [.int .u64 h, .int .u64 l], .sl 1 3 (rg k fun i => bt h l (w - 1 - i))]) 39 w trivial ?_ ?_)
        · simp [rg_zero]
        · intro k hk _
          refine W.of_WE hT mixed M0 _ (by kernel_rfl) ?_
          simp +contextual [SPow]
          rw [rg_length]
          obtain ⟨h0, h1, l0, l1⟩ := hin
          refine ⟨fun hlt => ?_, fun hge => by rw [show k = w by omega]⟩
          simp (disch := omega) only [wr_i64, true_and]
          have e1 : (((w : Int) - 1 - k).toNat) = w - 1 - k := by omega
          have key : ∀ x : Int, x = bt h l (w - 1 - k) → rg k (fun i => bt h l (w - 1 - i)) ++ [[V.int .i64 x]] = rg (k + 1) fun i => bt h l (w - 1 - i) := fun x hx => by
            rw [hx]; exact rg_snoc k _
          refine ⟨fun hg => ⟨fun g1 g2 => ⟨?_, by omega, by omega, key _ ?_⟩, by omega, by omega⟩, fun hg => ⟨fun g1 g2 => ⟨?_, by omega, by omega, key _ ?_⟩, by omega, by omega⟩⟩
          · exact Int.ne_of_gt (ipow_pos _)
          · rw [tdiv_pos h0]
            have := div_pow_bd h0 ((w : Int) - 1 - k - 64).toNat
            rw [wr_u64 (by omega) (by omega), tmod_two (by omega), wr_i64 (by omega) (by omega)]
            unfold bt
            rw [if_pos (by omega)]
            congr 3
            omega
          · exact Int.ne_of_gt (ipow_pos _)
          · rw [tdiv_pos l0]
            have := div_pow_bd l0 ((w : Int) - 1 - k).toNat
            rw [wr_u64 (by omega) (by omega), tmod_two (by omega), wr_i64 (by omega) (by omega)]
            unfold bt
            rw [if_neg (by omega), e1]
      · intro _
        refine W.of_WE hT mixed M0 _ (by kernel_rfl) ?_
        simp +contextual
    · cases h
  · cases h

end Go.Proofs.Ytpcblologcindaa.AL
namespace Go.Proofs.Ytpcblologcindaa.AL
open Go
attribute [local simp] qf cv qbin ibin sbin qun retPost rvOk ctV ctPost marksOk retV resAll resOf V.lt ltL V.ren renL V.exp cleanL V.clean closedL V.closed V.cells V.one V.tree
  loadV cellsAt isAggD placesOf fillV putCells lstore bound seqParts V.sh shL Blk.sh newV V.ok peqs peq srcRows appOk V.fz fzL Blk.fz fzOk and_assoc
attribute [-simp] Int.not_le Int.not_lt Nat.not_le Nat.not_lt
def SAdr : List V → Option Res
  | [.rd 1 rows] => match intsOf rows with
    | some bs => if bits01 bs = true ∧ bs.length ≤ 1000 then some ⟨.agg [.int .u64 (adrOf bs).1, .int .u64 (adrOf bs).2], []⟩ else none
    | none => none
  | _ => none
def M_f35 : Md := fun i => if i = 5 then some #[0, 1, 0, 4, 15, 0, 32, 0, 224, 511, 1023, 2047] else if i = 6 then some #[0, 1, 0, 4, 15, 0, 0, 96, 224, 480, 1023, 2047, 4095] else some #[]
@[simp] theorem M_f35_eq {i : Nat} : M_f35 i = (if i = 5 then some #[0, 1, 0, 4, 15, 0, 32, 0, 224, 511, 1023, 2047] else if i = 6 then some #[0, 1, 0, 4, 15, 0, 0, 96, 224, 480, 1023, 2047, 4095] else some #[]) := rfl
theorem runs_ref01_Addr : ∀ args r, SAdr args = some r → Runs Try.prog 35 args r := by
  intro args r h
  unfold SAdr at h
  split at h
  · rename_i rows
    split at h
    · rename_i bs hbs
      split at h
      · rename_i hin
        cases h
        obtain ⟨h01, hlen⟩ := hin
        rw [bits01_iff] at h01
        have hrows := intsOf_eq hbs
        subst hrows
        have hT : (T0.add 44 SPow).ok Try.prog := Tab.add_ok (T0_ok _) runs_ref01_power
        refine Runs.of_body Try.func35 (by decide) rfl (by simp [Try.f35]) ?_
        refine W.seqE hT mixed M_f35 (by kernel_rfl) ?_
        simp +contextual [Try.f35]
        refine W.seqE hT mixed M_f35 (by kernel_rfl) ?_
        simp +contextual [Try.f35]
        refine W.cut True [(2, .ptr 0 0), (3, .ptr 1 0)] [.box 24 [.int .u64 0, .int .u64 0], .box 24 [.int .u64 (adrOf bs).1, .int .u64 (adrOf bs).2]] 35 ?_ ?_
        · refine W.seqE hT mixed M_f35 (by kernel_rfl) ?_
          simp +contextual [Try.f35]
          refine W.block (W.for (fun _ => True) (fun k => [(0, .rd 1 (bs.map fun x => [.int .i64 x])), (2, .ptr 0 0), (3, .ptr 1 0), (4, .int .i64 k)])
            (fun k => [.box 24 [.int .u64 0, .int .u64 0], .box 24 [.int .u64 (adrOf (bs.take k)).1, .int .u64 (adrOf (bs.take k)).2]]) 35 bs.length trivial ?_ ?_)
          · simp [adrOf]
          · intro k hk _
            refine W.of_WE hT mixed M_f35 _ (by kernel_rfl) ?_
            simp +contextual [SPow]
            have hbd := adrOf_bd (bs.take k) (fun b hb => h01 b (List.mem_of_mem_take hb)) (0, 0) (by simp)
            change 0 ≤ (adrOf (bs.take k)).1 ∧ (adrOf (bs.take k)).1 ≤ 18446744073709551615 ∧ 0 ≤ (adrOf (bs.take k)).2 ∧ (adrOf (bs.take k)).2 ≤ 18446744073709551615 at hbd
            refine ⟨fun hkl => ?_, fun hkl => ?_⟩
            · have hb := h01 _ (List.getElem_mem hkl)
              rw [take_snoc' bs k hkl, adrOf_snoc, Int.tdiv_eq_ediv_of_nonneg hbd.2.2.1]
              simp only [adrStep, wrap_i64, wrap_u64]
              omega
            · rw [List.take_of_length_le (by omega)]
              exact ⟨rfl, rfl⟩
        · intro _
          refine W.of_WE hT mixed M_f35 _ (by kernel_rfl) ?_
          simp +contextual
      · cases h
    · cases h
  · cases h

end Go.Proofs.Ytpcblologcindaa.AL
namespace Go.Proofs.Ytpcblologcindaa.AL
open Go
attribute [local simp] qf cv qbin ibin sbin qun retPost rvOk ctV ctPost marksOk retV resAll resOf V.lt ltL V.ren renL V.exp cleanL V.clean closedL V.closed V.cells V.one V.tree
  loadV cellsAt isAggD placesOf fillV putCells lstore bound seqParts V.sh shL Blk.sh newV V.ok peqs peq srcRows appOk V.fz fzL Blk.fz fzOk and_assoc
attribute [-simp] Int.not_le Int.not_lt Nat.not_le Nat.not_lt
def SAnd : List V → Option Res
  | [.agg [.int .u64 a, .int .u64 b], .agg [.int .u64 c, .int .u64 d]] => some ⟨.agg [.int .u64 (bAnd .u64 a c), .int .u64 (bAnd .u64 b d)], []⟩
  | _ => none
theorem runs_number_and : ∀ args r, SAnd args = some r → Runs Try.prog 33 args r := by
  intro args r h
  unfold SAnd at h
  split at h
  · rename_i a b c d
    cases h
    refine Runs.of_body Try.func33 (by decide) rfl (by simp [Try.f33]) ?_
    refine W.of_WE (T0_ok _) mixed M0 _ (by kernel_rfl) ?_
    simp +contextual [Try.f33]
  · cases h
def maskA (f : Int) (w : Nat) : Int × Int := if f = 4 then (0, 4294967296 - 2 ^ w) else if 64 ≤ w then (18446744073709551616 - 2 ^ (w - 64), 0) else (18446744073709551615, 18446744073709551616 - 2 ^ w)
def SMask : List V → Option Res
  | [.int .u8 f, .int .i64 n] => if (f = 4 ∨ f = 6) ∧ 0 ≤ n ∧ n ≤ widN f then some ⟨.agg [.int .u64 (maskA f (widN f - n.toNat)).1, .int .u64 (maskA f (widN f - n.toNat)).2], []⟩ else none
  | _ => none
theorem runs_number_mask : ∀ args r, SMask args = some r → Runs Try.prog 34 args r := by
  intro args r h
  unfold SMask at h
  split at h
  · rename_i f n
    split at h
    · rename_i hin
      cases h
      obtain ⟨hf, h0, hn⟩ := hin
      have hT : (T0.add 30 SWid).ok Try.prog := Tab.add_ok (T0_ok _) runs_number_width
      refine Runs.of_body Try.func34 (by decide) rfl (by simp [Try.f34]) ?_
      refine W.of_WE hT mixed M0 _ (by kernel_rfl) ?_
      simp +contextual [Try.f34, SWid, wid_N]
      have hw : (widN f : Int) - n = ((widN f - n.toNat : Nat) : Int) := by omega
      have hk : widN f - n.toNat ≤ 128 := by have := widN_le f; omega
      have hk4 : f = 4 → widN f - n.toNat ≤ 32 := by rintro rfl; show 32 - n.toNat ≤ 32; omega
      rw [hw]
      have hw4 : f = 4 → (widN 4 : Int) - n = ((widN 4 - n.toNat : Nat) : Int) := by rintro rfl; exact hw
      have hk4' : f = 4 → widN 4 - n.toNat ≤ 32 := by rintro rfl; exact hk4 rfl
      generalize widN f - n.toNat = k at *
      rw [wr_i64 (x := (k : Int)) (by omega) (by omega)]
      refine ⟨fun hg => ?_, fun hl => ?_⟩
      · rw [wr_i64 (by omega) (by omega)]
        refine ⟨by omega, fun h4 => absurd (hk4 h4) (by omega), fun h4 => ?_⟩
        rw [show (k : Int) - 64 = ((k - 64 : Nat) : Int) by omega, bShl_all (by omega)]
        unfold maskA
        rw [if_neg h4, if_pos (by omega)]
        exact ⟨rfl, rfl⟩
      · refine ⟨by omega, fun h4 => ?_, fun h4 => ?_⟩
        · rw [hw4 h4]
          have := hk4' h4
          rw [wr_i64 (by omega) (by omega), bShl_all (by omega), mask32 this]
          exact ⟨rfl, rfl⟩
        · rw [bShl_all (by omega)]
          unfold maskA
          rw [if_neg h4, if_neg (by omega)]
          exact ⟨rfl, rfl⟩
    · cases h
  · cases h

end Go.Proofs.Ytpcblologcindaa.AL
