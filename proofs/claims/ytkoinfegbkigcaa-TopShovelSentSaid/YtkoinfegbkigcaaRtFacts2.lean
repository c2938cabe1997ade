/- The structs and arrays that are built. -/
import Derived.Test.YtkoinfegbkigcaaRtFacts
import Derived.Test.YtkoinfegbkigcaaRtO
namespace Go.Proofs.Ytkoinfegbkigcaa
open Go.Rt
theorem run_zero {P : Program} {t : TypeId} {v : Value} [g : ZeroT P t v] (w : World) : (zeroValue t).run P w = .ok v w := g.h w
theorem run_size {P : Program} {t : TypeId} {n : Nat} [g : SizeT P t n] (w : World) : (sizeOf t).run P w = .ok n w := g.h w

instance : PlaceT Try.prog 35 [.int .i64 0, .int .i64 0, .float .f32 0, .float .f32 0, .float .f32 0] (fun i => ([(0, 1), (1, 1), (2, 3)] : List (Nat × Nat))[i]?) :=
  ⟨fun parts w cs h => by simp [Instr.build, run_zero, Try.runUnderlying35, run_size, Value.cells, h]⟩
instance : PlaceT Try.prog 101 [.int .i64 0, .int .i64 0] (fun i => ([(0, 1), (1, 1)] : List (Nat × Nat))[i]?) :=
  ⟨fun parts w cs h => by simp [Instr.build, run_zero, Try.runUnderlying101, run_size, Value.cells, h]⟩
instance : PlaceT Try.prog 158 [.int .i64 0, .bool false] (fun i => ([(0, 1), (1, 1)] : List (Nat × Nat))[i]?) :=
  ⟨fun parts w cs h => by simp [Instr.build, run_zero, Try.runUnderlying158, run_size, Value.cells, h]⟩
instance : PlaceT Try.prog 28 [.string { data := #[] }, .int .i64 0, .slice none 0 0, .slice none 0 0] (fun i => ([(0, 1), (1, 1), (2, 1), (3, 1)] : List (Nat × Nat))[i]?) :=
  ⟨fun parts w cs h => by simp [Instr.build, run_zero, Try.runUnderlying28, run_size, Value.cells, h]⟩
instance : PlaceT Try.prog 40 [.string { data := #[] }, .int .i64 0, .slice none 0 0, .slice none 0 0] (fun i => ([(0, 1), (1, 1), (2, 1), (3, 1)] : List (Nat × Nat))[i]?) :=
  ⟨fun parts w cs h => by simp [Instr.build, run_zero, Try.runUnderlying40, run_size, Value.cells, h]⟩
instance : PlaceT Try.prog 33 [.float .f32 0, .float .f32 0, .float .f32 0] (fun i => some (i * 1, 1)) :=
  ⟨fun parts w cs h => by simp only [Nat.mul_one] at h; simp [Instr.build, run_zero, Try.runUnderlying33, run_size, Value.cells, h]⟩
instance : PlaceT Try.prog 36 [.int .u8 0, .int .u8 0, .int .u8 0, .int .u8 0, .int .u8 0, .int .u8 0, .int .u8 0, .int .u8 0, .int .u8 0, .int .u8 0, .int .u8 0, .int .u8 0, .int .u8 0, .int .u8 0, .int .u8 0, .int .u8 0, .int .u8 0, .int .u8 0, .int .u8 0, .int .u8 0] (fun i => some (i * 1, 1)) :=
  ⟨fun parts w cs h => by simp only [Nat.mul_one] at h; simp [Instr.build, run_zero, Try.runUnderlying36, run_size, Value.cells, h]⟩
instance : GoT Try.prog 35 Packet := goT_of rfl rfl
instance : GoT Try.prog 101 Span := goT_of rfl rfl
instance : GoT Try.prog 158 Reading := goT_of rfl rfl
instance : GoT Try.prog 28 Run := goT_of rfl rfl
instance : GoT Try.prog 40 Run := goT_of rfl rfl
instance : GoT Try.prog 32 F32 := goT_of rfl rfl
instance : GoT Try.prog 3 Int := goT_of rfl rfl
instance : GoT Try.prog 37 Int := goT_of rfl rfl
instance : GoT Try.prog 5 UInt8 := goT_of rfl rfl
instance : GoT Try.prog 4 Bool := goT_of rfl rfl
instance : GoT Try.prog 9 ByteArray := goT_of rfl rfl
end Go.Proofs.Ytkoinfegbkigcaa
