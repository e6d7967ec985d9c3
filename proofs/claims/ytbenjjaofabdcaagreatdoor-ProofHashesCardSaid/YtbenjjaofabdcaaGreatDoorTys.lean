/-
  Measures of the program's types.
-/
import Derived.Test.YtbenjjaofabdcaaGreatDoorAuto
namespace Go.Proofs.YtbenjjaofabdcaaGreatDoor
open Go Go.RowKit

instance : TyI 33 1 false [.int .u64 0] := ⟨⟨Tryz.sizeOf33, Tryz.isAgg33, fun w => ⟨_, Tryz.zeroValue33 w, rfl⟩⟩⟩
instance : TyI 74 1 false [.slice none 0 0] := ⟨⟨Tryz.sizeOf74, Tryz.isAgg74, fun w => ⟨_, Tryz.zeroValue74 w, rfl⟩⟩⟩
instance : TyI 136 1 false [.slice none 0 0] := ⟨⟨Tryz.sizeOf136, Tryz.isAgg136, fun w => ⟨_, Tryz.zeroValue136 w, rfl⟩⟩⟩
instance : TyI 179 1 false [.slice none 0 0] := ⟨⟨Tryz.sizeOf179, Tryz.isAgg179, fun w => ⟨_, Tryz.zeroValue179 w, rfl⟩⟩⟩
instance : TyI 155 1 false [.slice none 0 0] := ⟨⟨Tryz.sizeOf155, Tryz.isAgg155, fun w => ⟨_, Tryz.zeroValue155 w, rfl⟩⟩⟩
instance : TyI 84 1 false [.slice none 0 0] := ⟨⟨Tryz.sizeOf84, Tryz.isAgg84, fun w => ⟨_, Tryz.zeroValue84 w, rfl⟩⟩⟩
instance : TyI 77 1 false [.slice none 0 0] := ⟨⟨Tryz.sizeOf77, Tryz.isAgg77, fun w => ⟨_, Tryz.zeroValue77 w, rfl⟩⟩⟩
instance : TyI 32 1 false [.slice none 0 0] := ⟨⟨Tryz.sizeOf32, Tryz.isAgg32, fun w => ⟨_, Tryz.zeroValue32 w, rfl⟩⟩⟩
instance : TyI 111 1 false [.pointer none] := ⟨⟨Tryz.sizeOf111, Tryz.isAgg111, fun w => ⟨_, Tryz.zeroValue111 w, rfl⟩⟩⟩
instance : TyI 123 1 false [.pointer none] := ⟨⟨Tryz.sizeOf123, Tryz.isAgg123, fun w => ⟨_, Tryz.zeroValue123 w, rfl⟩⟩⟩
instance : TyI 188 1 false [.pointer none] := ⟨⟨Tryz.sizeOf188, Tryz.isAgg188, fun w => ⟨_, Tryz.zeroValue188 w, rfl⟩⟩⟩
instance : TyI 169 1 false [.pointer none] := ⟨⟨Tryz.sizeOf169, Tryz.isAgg169, fun w => ⟨_, Tryz.zeroValue169 w, rfl⟩⟩⟩
instance : TyI 62 1 false [.pointer none] := ⟨⟨Tryz.sizeOf62, Tryz.isAgg62, fun w => ⟨_, Tryz.zeroValue62 w, rfl⟩⟩⟩
instance : TyI 47 1 false [.pointer none] := ⟨⟨Tryz.sizeOf47, Tryz.isAgg47, fun w => ⟨_, Tryz.zeroValue47 w, rfl⟩⟩⟩
instance : TyI 24 1 false [.pointer none] := ⟨⟨Tryz.sizeOf24, Tryz.isAgg24, fun w => ⟨_, Tryz.zeroValue24 w, rfl⟩⟩⟩
instance : TyI 181 3 true [.slice none 0 0, .slice none 0 0, .slice none 0 0] := ⟨⟨Tryz.sizeOf181, Tryz.isAgg181, fun w => ⟨_, Tryz.zeroValue181 w, rfl⟩⟩⟩
instance : TyI 113 2 true [.pointer none, .int .i64 0] := ⟨⟨Tryz.sizeOf113, Tryz.isAgg113, fun w => ⟨_, Tryz.zeroValue113 w, rfl⟩⟩⟩
instance : TyI 157 2 true [.slice none 0 0, .slice none 0 0] := ⟨⟨Tryz.sizeOf157, Tryz.isAgg157, fun w => ⟨_, Tryz.zeroValue157 w, rfl⟩⟩⟩
instance : TyI 122 3 true [.slice none 0 0, .slice none 0 0, .slice none 0 0] := ⟨⟨Tryz.sizeOf122, Tryz.isAgg122, fun w => ⟨_, Tryz.zeroValue122 w, rfl⟩⟩⟩
instance : TyI 127 16 true [.int .u64 0, .int .u64 0, .int .u64 0, .int .u64 0, .int .u64 0, .int .u64 0, .int .u64 0, .int .u64 0, .int .u64 0, .int .u64 0, .int .i64 0, .int .i64 0, .int .i64 0, .int .i64 0, .int .i64 0, .int .i64 0] := ⟨⟨Tryz.sizeOf127, Tryz.isAgg127, fun w => ⟨_, Tryz.zeroValue127 w, rfl⟩⟩⟩
instance : TyI 185 14 true [.int .u64 0, .int .u64 0, .int .i64 0, .int .i64 0, .int .u64 0, .int .u64 0, .int .u64 0, .int .u64 0, .int .u64 0, .int .u64 0, .int .u64 0, .int .u64 0, .int .u64 0, .int .u64 0] := ⟨⟨Tryz.sizeOf185, Tryz.isAgg185, fun w => ⟨_, Tryz.zeroValue185 w, rfl⟩⟩⟩
instance : TyI 183 2 true [.int .i64 0, .int .i64 0] := ⟨⟨Tryz.sizeOf183, Tryz.isAgg183, fun w => ⟨_, Tryz.zeroValue183 w, rfl⟩⟩⟩
instance : TyI 82 8 true [.int .i64 0, .slice none 0 0, .slice none 0 0, .int .u64 0, .int .u64 0, .int .i64 0, .int .i64 0, .int .i64 0] := ⟨⟨Tryz.sizeOf82, Tryz.isAgg82, fun w => ⟨_, Tryz.zeroValue82 w, rfl⟩⟩⟩
instance : TyI 54 4 true [.pointer none, .pointer none, .slice none 0 0, .slice none 0 0] := ⟨⟨Tryz.sizeOf54, Tryz.isAgg54, fun w => ⟨_, Tryz.zeroValue54 w, rfl⟩⟩⟩
instance : TyI 70 1 true [.slice none 0 0] := ⟨⟨Tryz.sizeOf70, Tryz.isAgg70, fun w => ⟨_, Tryz.zeroValue70 w, rfl⟩⟩⟩
def aZero : List Value := [.int .u64 0, .int .u64 0, .int .i64 0, .int .i64 0, .int .u64 0, .int .u64 0, .int .u64 0, .int .u64 0, .int .u64 0, .int .u64 0, .int .u64 0, .int .u64 0, .int .i64 0, .int .i64 0] ++ List.replicate 32 (.int .u8 0)
theorem tyAcct : Ty Tryz.prog 37 46 true aZero := ⟨Tryz.sizeOf37, Tryz.isAgg37, fun w => ⟨_, Tryz.zeroValue37 w, rfl⟩⟩
instance : TyI 37 46 true aZero := ⟨tyAcct⟩
instance : ElI 179 111 1 8 := ⟨elemOk_mk (by kernel_rfl) (by kernel_rfl) (by decide) (by decide)⟩
instance : ElI 67 37 46 144 := ⟨elemOk_mk (by kernel_rfl) (by kernel_rfl) (by decide) (by decide)⟩
instance : ElI 80 127 16 128 := ⟨elemOk_mk (by kernel_rfl) (by kernel_rfl) (by decide) (by decide)⟩
instance : ElI 114 123 1 8 := ⟨elemOk_mk (by kernel_rfl) (by kernel_rfl) (by decide) (by decide)⟩
instance : ElI 155 185 14 112 := ⟨elemOk_mk (by kernel_rfl) (by kernel_rfl) (by decide) (by decide)⟩
instance : ElI 84 183 2 16 := ⟨elemOk_mk (by kernel_rfl) (by kernel_rfl) (by decide) (by decide)⟩
instance : ElI 77 82 8 96 := ⟨elemOk_mk (by kernel_rfl) (by kernel_rfl) (by decide) (by decide)⟩
end Go.Proofs.YtbenjjaofabdcaaGreatDoor
