/- Facts on the program's types, by definition. -/
import Derived.Test.YtjgpnbchnenbeaaWM
import Derived.Test.YtjgpnbchnenbeaaProg
namespace Go.Proofs.Ytjgpnbchnenbeaa
set_option linter.unusedSimpArgs false
set_option linter.unusedVariables false
open Go
theorem sh_22 : shp Try.prog 22 = .slice 1 := by kernel_rfl
theorem sh_24 : shp Try.prog 24 = .slice 1 := by kernel_rfl
theorem sh_28 : shp Try.prog 28 = .slice 1 := by kernel_rfl
theorem sh_41 : shp Try.prog 41 = .slice 2 := by kernel_rfl
theorem sh_53 : shp Try.prog 53 = .slice 3 := by kernel_rfl
theorem sh_60 : shp Try.prog 60 = .slice 2 := by kernel_rfl
theorem sh_78 : shp Try.prog 78 = .slice 4 := by kernel_rfl
theorem sh_82 : shp Try.prog 82 = .slice 3 := by kernel_rfl
theorem sh_90 : shp Try.prog 90 = .array 2 1 := by kernel_rfl
theorem sh_168 : shp Try.prog 168 = .slice 1 := by kernel_rfl
theorem sh_184 : shp Try.prog 184 = .slice 1 := by kernel_rfl
theorem sh_188 : shp Try.prog 188 = .slice 1 := by kernel_rfl
theorem fo_77_0 : fOff Try.prog 77 0 = some 0 := by kernel_rfl
theorem fo_77_1 : fOff Try.prog 77 1 = some 1 := by kernel_rfl
theorem fo_93_0 : fOff Try.prog 93 0 = some 0 := by kernel_rfl
theorem fo_93_1 : fOff Try.prog 93 1 = some 1 := by kernel_rfl
theorem fo_93_2 : fOff Try.prog 93 2 = some 3 := by kernel_rfl
theorem fo_95_0 : fOff Try.prog 95 0 = some 0 := by kernel_rfl
theorem fo_95_1 : fOff Try.prog 95 1 = some 1 := by kernel_rfl
theorem fo_95_2 : fOff Try.prog 95 2 = some 2 := by kernel_rfl
theorem fo_130_0 : fOff Try.prog 130 0 = some 0 := by kernel_rfl
theorem fo_130_1 : fOff Try.prog 130 1 = some 1 := by kernel_rfl
theorem fo_163_0 : fOff Try.prog 163 0 = some 0 := by kernel_rfl
theorem fo_163_1 : fOff Try.prog 163 1 = some 1 := by kernel_rfl
theorem fo_163_2 : fOff Try.prog 163 2 = some 2 := by kernel_rfl
theorem fo_182_0 : fOff Try.prog 182 0 = some 0 := by kernel_rfl
theorem fo_182_1 : fOff Try.prog 182 1 = some 1 := by kernel_rfl
theorem fo_182_2 : fOff Try.prog 182 2 = some 2 := by kernel_rfl
theorem ud_2 : Try.prog.underlying 2 = some (.int .i64) := by kernel_rfl
theorem ud_3 : Try.prog.underlying 3 = some (.int .i64) := by kernel_rfl
theorem ud_5 : Try.prog.underlying 5 = some (.int .u8) := by kernel_rfl
theorem ud_26 : Try.prog.underlying 26 = some (.float .f32) := by kernel_rfl
theorem ud_40 : Try.prog.underlying 40 = some (.int .i16) := by kernel_rfl
theorem ud_91 : Try.prog.underlying 91 = some (.int .i8) := by kernel_rfl
theorem ud_100 : Try.prog.underlying 100 = some (.float .f64) := by kernel_rfl
theorem ud_161 : Try.prog.underlying 161 = some (.int .u64) := by kernel_rfl
theorem ud_166 : Try.prog.underlying 166 = some (.int .u32) := by kernel_rfl
theorem ud_176 : Try.prog.underlying 176 = some (.int .u64) := by kernel_rfl
theorem ud_219 : Try.prog.underlying 219 = some (.int .u64) := by kernel_rfl
theorem zc_2 : zc Try.prog 2 = some #[.int .i64 0] := by kernel_rfl
theorem zc_3 : zc Try.prog 3 = some #[.int .i64 0] := by kernel_rfl
theorem zc_4 : zc Try.prog 4 = some #[.bool false] := by kernel_rfl
theorem zc_26 : zc Try.prog 26 = some #[.float .f32 0] := by kernel_rfl
theorem zc_28 : zc Try.prog 28 = some #[.slice none 0 0] := by kernel_rfl
theorem zc_77 : zc Try.prog 77 = some #[.complex .f32 0 0, .float .f32 0] := by kernel_rfl
theorem zc_93 : zc Try.prog 93 = some #[.float .f32 0, .float .f32 0, .float .f32 0, .int .i8 0] := by kernel_rfl
theorem zc_95 : zc Try.prog 95 = some #[.int .i16 0, .int .i8 0, .bool false] := by kernel_rfl
theorem zc_130 : zc Try.prog 130 = some #[.float .f32 0, .float .f32 0] := by kernel_rfl
theorem zc_182 : zc Try.prog 182 = some #[.int .i16 0, .int .i16 0, .float .f32 0] := by kernel_rfl
theorem zc_219 : zc Try.prog 219 = some #[.int .u64 0] := by kernel_rfl
theorem st_22 : ST Try.prog 22 5 1 1 := st_mk (by kernel_rfl) (by kernel_rfl) (by decide)
theorem st_24 : ST Try.prog 24 40 1 2 := st_mk (by kernel_rfl) (by kernel_rfl) (by decide)
theorem st_28 : ST Try.prog 28 26 1 4 := st_mk (by kernel_rfl) (by kernel_rfl) (by decide)
theorem st_41 : ST Try.prog 41 130 2 8 := st_mk (by kernel_rfl) (by kernel_rfl) (by decide)
theorem st_52 : ST Try.prog 52 182 3 8 := st_mk (by kernel_rfl) (by kernel_rfl) (by decide)
theorem st_60 : ST Try.prog 60 77 2 12 := st_mk (by kernel_rfl) (by kernel_rfl) (by decide)
theorem st_78 : ST Try.prog 78 93 4 16 := st_mk (by kernel_rfl) (by kernel_rfl) (by decide)
theorem st_82 : ST Try.prog 82 95 3 4 := st_mk (by kernel_rfl) (by kernel_rfl) (by decide)
theorem st_168 : ST Try.prog 168 2 1 8 := st_mk (by kernel_rfl) (by kernel_rfl) (by decide)
theorem st_184 : ST Try.prog 184 28 1 24 := st_mk (by kernel_rfl) (by kernel_rfl) (by decide)
theorem st_188 : ST Try.prog 188 62 1 8 := st_mk (by kernel_rfl) (by kernel_rfl) (by decide)
theorem mixed : Try.prog.follows .mixedOrders = true := by kernel_rfl
end Go.Proofs.Ytjgpnbchnenbeaa
