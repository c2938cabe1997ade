/- The facts on the program's types and functions, by number. -/
import Derived.Test.YtkoinfegbkigcaaProg
import Derived.Test.YtkoinfegbkigcaaRtK
import Derived.KernelRfl
namespace Go.Proofs.Ytkoinfegbkigcaa
open Go.Rt

instance : SizeT Try.prog 0 1 := ⟨Try.sizeOf0⟩
instance : AggT Try.prog 0 false := ⟨Try.isAgg0⟩
instance : ZeroT Try.prog 0 (Go.Value.tuple #[]) := ⟨Try.zeroValue0⟩
instance : SizeT Try.prog 1 1 := ⟨Try.sizeOf1⟩
instance : AggT Try.prog 1 false := ⟨Try.isAgg1⟩
instance : ZeroT Try.prog 1 (Go.Value.nilFunc) := ⟨Try.zeroValue1⟩
instance : SizeT Try.prog 2 1 := ⟨Try.sizeOf2⟩
instance : AggT Try.prog 2 false := ⟨Try.isAgg2⟩
instance : ZeroT Try.prog 2 (Go.Value.int Go.IntKind.i64 0) := ⟨Try.zeroValue2⟩
instance : UndT Try.prog 2 (Go.TypeDesc.int Go.IntKind.i64) := ⟨Try.underlying2⟩
instance : SizeT Try.prog 3 1 := ⟨Try.sizeOf3⟩
instance : AggT Try.prog 3 false := ⟨Try.isAgg3⟩
instance : ZeroT Try.prog 3 (Go.Value.int Go.IntKind.i64 0) := ⟨Try.zeroValue3⟩
instance : UndT Try.prog 3 (Go.TypeDesc.int Go.IntKind.i64) := ⟨Try.underlying3⟩
instance : SizeT Try.prog 4 1 := ⟨Try.sizeOf4⟩
instance : AggT Try.prog 4 false := ⟨Try.isAgg4⟩
instance : ZeroT Try.prog 4 (Go.Value.bool false) := ⟨Try.zeroValue4⟩
instance : UndT Try.prog 4 (Go.TypeDesc.bool) := ⟨Try.underlying4⟩
instance : SizeT Try.prog 5 1 := ⟨Try.sizeOf5⟩
instance : AggT Try.prog 5 false := ⟨Try.isAgg5⟩
instance : ZeroT Try.prog 5 (Go.Value.int Go.IntKind.u8 0) := ⟨Try.zeroValue5⟩
instance : UndT Try.prog 5 (Go.TypeDesc.int Go.IntKind.u8) := ⟨Try.underlying5⟩
instance : SizeT Try.prog 6 1 := ⟨Try.sizeOf6⟩
instance : AggT Try.prog 6 false := ⟨Try.isAgg6⟩
instance : ZeroT Try.prog 6 (Go.Value.int Go.IntKind.u8 0) := ⟨Try.zeroValue6⟩
instance : UndT Try.prog 6 (Go.TypeDesc.int Go.IntKind.u8) := ⟨Try.underlying6⟩
instance : SizeT Try.prog 7 4 := ⟨Try.sizeOf7⟩
instance : AggT Try.prog 7 true := ⟨Try.isAgg7⟩
instance : ZeroT Try.prog 7 (Go.Value.agg #[Go.Value.int Go.IntKind.i64 0, Go.Value.int Go.IntKind.i64 0, Go.Value.bool false, Go.Value.int Go.IntKind.u8 0]) := ⟨Try.zeroValue7⟩
instance : FieldT Try.prog 7 0 0 := ⟨fun a w => by simp [Instr.fieldAt, Instr.sureAddr, Try.runUnderlying7, fieldPlace]⟩
instance : FieldT Try.prog 7 1 1 := ⟨fun a w => by simp [Instr.fieldAt, Instr.sureAddr, Try.runUnderlying7, fieldPlace]⟩
instance : FieldT Try.prog 7 2 2 := ⟨fun a w => by simp [Instr.fieldAt, Instr.sureAddr, Try.runUnderlying7, fieldPlace]⟩
instance : FieldT Try.prog 7 3 3 := ⟨fun a w => by simp [Instr.fieldAt, Instr.sureAddr, Try.runUnderlying7, fieldPlace]⟩
instance : SizeT Try.prog 8 4 := ⟨Try.sizeOf8⟩
instance : AggT Try.prog 8 true := ⟨Try.isAgg8⟩
instance : ZeroT Try.prog 8 (Go.Value.agg #[Go.Value.int Go.IntKind.i64 0, Go.Value.int Go.IntKind.i64 0, Go.Value.bool false, Go.Value.int Go.IntKind.u8 0]) := ⟨Try.zeroValue8⟩
instance : FieldT Try.prog 8 0 0 := ⟨fun a w => by simp [Instr.fieldAt, Instr.sureAddr, Try.runUnderlying8, fieldPlace]⟩
instance : FieldT Try.prog 8 1 1 := ⟨fun a w => by simp [Instr.fieldAt, Instr.sureAddr, Try.runUnderlying8, fieldPlace]⟩
instance : FieldT Try.prog 8 2 2 := ⟨fun a w => by simp [Instr.fieldAt, Instr.sureAddr, Try.runUnderlying8, fieldPlace]⟩
instance : FieldT Try.prog 8 3 3 := ⟨fun a w => by simp [Instr.fieldAt, Instr.sureAddr, Try.runUnderlying8, fieldPlace]⟩
instance : SizeT Try.prog 9 1 := ⟨Try.sizeOf9⟩
instance : AggT Try.prog 9 false := ⟨Try.isAgg9⟩
instance : ZeroT Try.prog 9 (Go.Value.string { data := #[] }) := ⟨Try.zeroValue9⟩
instance : UndT Try.prog 9 (Go.TypeDesc.string) := ⟨Try.underlying9⟩
instance : SizeT Try.prog 10 1 := ⟨Try.sizeOf10⟩
instance : AggT Try.prog 10 false := ⟨Try.isAgg10⟩
instance : ZeroT Try.prog 10 (Go.Value.string { data := #[] }) := ⟨Try.zeroValue10⟩
instance : UndT Try.prog 10 (Go.TypeDesc.string) := ⟨Try.underlying10⟩
instance : SizeT Try.prog 11 1 := ⟨Try.sizeOf11⟩
instance : AggT Try.prog 11 false := ⟨Try.isAgg11⟩
instance : ZeroT Try.prog 11 (Go.Value.string { data := #[] }) := ⟨Try.zeroValue11⟩
instance : UndT Try.prog 11 (Go.TypeDesc.string) := ⟨Try.underlying11⟩
instance : SizeT Try.prog 12 1 := ⟨Try.sizeOf12⟩
instance : AggT Try.prog 12 false := ⟨Try.isAgg12⟩
instance : ZeroT Try.prog 12 (Go.Value.int Go.IntKind.u64 0) := ⟨Try.zeroValue12⟩
instance : UndT Try.prog 12 (Go.TypeDesc.int Go.IntKind.u64) := ⟨Try.underlying12⟩
instance : SizeT Try.prog 13 2 := ⟨Try.sizeOf13⟩
instance : AggT Try.prog 13 true := ⟨Try.isAgg13⟩
instance : ZeroT Try.prog 13 (Go.Value.agg #[Go.Value.string { data := #[] }, Go.Value.int Go.IntKind.u64 0]) := ⟨Try.zeroValue13⟩
instance : FieldT Try.prog 13 0 0 := ⟨fun a w => by simp [Instr.fieldAt, Instr.sureAddr, Try.runUnderlying13, fieldPlace]⟩
instance : FieldT Try.prog 13 1 1 := ⟨fun a w => by simp [Instr.fieldAt, Instr.sureAddr, Try.runUnderlying13, fieldPlace]⟩
instance : SizeT Try.prog 14 2 := ⟨Try.sizeOf14⟩
instance : AggT Try.prog 14 true := ⟨Try.isAgg14⟩
instance : ZeroT Try.prog 14 (Go.Value.agg #[Go.Value.string { data := #[] }, Go.Value.int Go.IntKind.u64 0]) := ⟨Try.zeroValue14⟩
instance : FieldT Try.prog 14 0 0 := ⟨fun a w => by simp [Instr.fieldAt, Instr.sureAddr, Try.runUnderlying14, fieldPlace]⟩
instance : FieldT Try.prog 14 1 1 := ⟨fun a w => by simp [Instr.fieldAt, Instr.sureAddr, Try.runUnderlying14, fieldPlace]⟩
instance : SizeT Try.prog 15 1 := ⟨Try.sizeOf15⟩
instance : AggT Try.prog 15 false := ⟨Try.isAgg15⟩
instance : ZeroT Try.prog 15 (Go.Value.pointer none) := ⟨Try.zeroValue15⟩
instance : UndT Try.prog 15 (Go.TypeDesc.pointer 326) := ⟨Try.underlying15⟩
instance : SizeT Try.prog 16 1 := ⟨Try.sizeOf16⟩
instance : AggT Try.prog 16 false := ⟨Try.isAgg16⟩
instance : ZeroT Try.prog 16 (Go.Value.pointer none) := ⟨Try.zeroValue16⟩
instance : UndT Try.prog 16 (Go.TypeDesc.pointer 329) := ⟨Try.underlying16⟩
instance : SizeT Try.prog 17 1 := ⟨Try.sizeOf17⟩
instance : AggT Try.prog 17 false := ⟨Try.isAgg17⟩
instance : ZeroT Try.prog 17 (Go.Value.pointer none) := ⟨Try.zeroValue17⟩
instance : UndT Try.prog 17 (Go.TypeDesc.pointer 337) := ⟨Try.underlying17⟩
instance : SizeT Try.prog 18 1 := ⟨Try.sizeOf18⟩
instance : AggT Try.prog 18 true := ⟨Try.isAgg18⟩
instance : ZeroT Try.prog 18 (Go.Value.agg #[Go.Value.pointer none]) := ⟨Try.zeroValue18⟩
instance : FieldT Try.prog 18 0 0 := ⟨fun a w => by simp [Instr.fieldAt, Instr.sureAddr, Try.runUnderlying18, fieldPlace]⟩
instance : SizeT Try.prog 19 1 := ⟨Try.sizeOf19⟩
instance : AggT Try.prog 19 true := ⟨Try.isAgg19⟩
instance : ZeroT Try.prog 19 (Go.Value.agg #[Go.Value.pointer none]) := ⟨Try.zeroValue19⟩
instance : FieldT Try.prog 19 0 0 := ⟨fun a w => by simp [Instr.fieldAt, Instr.sureAddr, Try.runUnderlying19, fieldPlace]⟩
instance : SizeT Try.prog 20 1 := ⟨Try.sizeOf20⟩
instance : AggT Try.prog 20 false := ⟨Try.isAgg20⟩
instance : ZeroT Try.prog 20 (Go.Value.nilIface) := ⟨Try.zeroValue20⟩
instance : SizeT Try.prog 21 1 := ⟨Try.sizeOf21⟩
instance : AggT Try.prog 21 false := ⟨Try.isAgg21⟩
instance : ZeroT Try.prog 21 (Go.Value.int Go.IntKind.i32 0) := ⟨Try.zeroValue21⟩
instance : UndT Try.prog 21 (Go.TypeDesc.int Go.IntKind.i32) := ⟨Try.underlying21⟩
instance : SizeT Try.prog 22 1 := ⟨Try.sizeOf22⟩
instance : AggT Try.prog 22 false := ⟨Try.isAgg22⟩
instance : ZeroT Try.prog 22 (Go.Value.slice none 0 0) := ⟨Try.zeroValue22⟩
instance : UndT Try.prog 22 (Go.TypeDesc.slice 31) := ⟨Try.underlying22⟩
instance : SizeT Try.prog 23 1 := ⟨Try.sizeOf23⟩
instance : AggT Try.prog 23 false := ⟨Try.isAgg23⟩
instance : ZeroT Try.prog 23 (Go.Value.int Go.IntKind.u16 0) := ⟨Try.zeroValue23⟩
instance : UndT Try.prog 23 (Go.TypeDesc.int Go.IntKind.u16) := ⟨Try.underlying23⟩
instance : SizeT Try.prog 24 1 := ⟨Try.sizeOf24⟩
instance : AggT Try.prog 24 false := ⟨Try.isAgg24⟩
instance : ZeroT Try.prog 24 (Go.Value.nilFunc) := ⟨Try.zeroValue24⟩
instance : SizeT Try.prog 25 1 := ⟨Try.sizeOf25⟩
instance : AggT Try.prog 25 false := ⟨Try.isAgg25⟩
instance : ZeroT Try.prog 25 (Go.Value.slice none 0 0) := ⟨Try.zeroValue25⟩
instance : UndT Try.prog 25 (Go.TypeDesc.slice 32) := ⟨Try.underlying25⟩
instance : SizeT Try.prog 26 1 := ⟨Try.sizeOf26⟩
instance : AggT Try.prog 26 false := ⟨Try.isAgg26⟩
instance : ZeroT Try.prog 26 (Go.Value.slice none 0 0) := ⟨Try.zeroValue26⟩
instance : UndT Try.prog 26 (Go.TypeDesc.slice 101) := ⟨Try.underlying26⟩
instance : SizeT Try.prog 27 4 := ⟨Try.sizeOf27⟩
instance : AggT Try.prog 27 true := ⟨Try.isAgg27⟩
instance : ZeroT Try.prog 27 (Go.Value.agg #[Go.Value.string { data := #[] }, Go.Value.int Go.IntKind.i64 0, Go.Value.slice none 0 0, Go.Value.slice none 0 0]) := ⟨Try.zeroValue27⟩
instance : FieldT Try.prog 27 0 0 := ⟨fun a w => by simp [Instr.fieldAt, Instr.sureAddr, Try.runUnderlying27, fieldPlace]⟩
instance : FieldT Try.prog 27 1 1 := ⟨fun a w => by simp [Instr.fieldAt, Instr.sureAddr, Try.runUnderlying27, fieldPlace]⟩
instance : FieldT Try.prog 27 2 2 := ⟨fun a w => by simp [Instr.fieldAt, Instr.sureAddr, Try.runUnderlying27, fieldPlace]⟩
instance : FieldT Try.prog 27 3 3 := ⟨fun a w => by simp [Instr.fieldAt, Instr.sureAddr, Try.runUnderlying27, fieldPlace]⟩
instance : SizeT Try.prog 28 4 := ⟨Try.sizeOf28⟩
instance : AggT Try.prog 28 true := ⟨Try.isAgg28⟩
instance : ZeroT Try.prog 28 (Go.Value.agg #[Go.Value.string { data := #[] }, Go.Value.int Go.IntKind.i64 0, Go.Value.slice none 0 0, Go.Value.slice none 0 0]) := ⟨Try.zeroValue28⟩
instance : FieldT Try.prog 28 0 0 := ⟨fun a w => by simp [Instr.fieldAt, Instr.sureAddr, Try.runUnderlying28, fieldPlace]⟩
instance : FieldT Try.prog 28 1 1 := ⟨fun a w => by simp [Instr.fieldAt, Instr.sureAddr, Try.runUnderlying28, fieldPlace]⟩
instance : FieldT Try.prog 28 2 2 := ⟨fun a w => by simp [Instr.fieldAt, Instr.sureAddr, Try.runUnderlying28, fieldPlace]⟩
instance : FieldT Try.prog 28 3 3 := ⟨fun a w => by simp [Instr.fieldAt, Instr.sureAddr, Try.runUnderlying28, fieldPlace]⟩
instance : SizeT Try.prog 29 1 := ⟨Try.sizeOf29⟩
instance : AggT Try.prog 29 false := ⟨Try.isAgg29⟩
instance : ZeroT Try.prog 29 (Go.Value.slice none 0 0) := ⟨Try.zeroValue29⟩
instance : UndT Try.prog 29 (Go.TypeDesc.slice 5) := ⟨Try.underlying29⟩
instance : SizeT Try.prog 30 1 := ⟨Try.sizeOf30⟩
instance : AggT Try.prog 30 false := ⟨Try.isAgg30⟩
instance : ZeroT Try.prog 30 (Go.Value.int Go.IntKind.i8 0) := ⟨Try.zeroValue30⟩
instance : UndT Try.prog 30 (Go.TypeDesc.int Go.IntKind.i8) := ⟨Try.underlying30⟩
instance : SizeT Try.prog 31 3 := ⟨Try.sizeOf31⟩
instance : AggT Try.prog 31 true := ⟨Try.isAgg31⟩
instance : ZeroT Try.prog 31 (Go.Value.agg #[Go.Value.int Go.IntKind.i8 0, Go.Value.int Go.IntKind.i8 0, Go.Value.int Go.IntKind.i8 0]) := ⟨Try.zeroValue31⟩
instance : UndT Try.prog 31 (Go.TypeDesc.array 3 30) := ⟨Try.underlying31⟩
instance : SizeT Try.prog 32 1 := ⟨Try.sizeOf32⟩
instance : AggT Try.prog 32 false := ⟨Try.isAgg32⟩
instance : ZeroT Try.prog 32 (Go.Value.float Go.FloatKind.f32 0) := ⟨Try.zeroValue32⟩
instance : UndT Try.prog 32 (Go.TypeDesc.float Go.FloatKind.f32) := ⟨Try.underlying32⟩
instance : SizeT Try.prog 33 3 := ⟨Try.sizeOf33⟩
instance : AggT Try.prog 33 true := ⟨Try.isAgg33⟩
instance : ZeroT Try.prog 33 (Go.Value.agg #[Go.Value.float Go.FloatKind.f32 0, Go.Value.float Go.FloatKind.f32 0, Go.Value.float Go.FloatKind.f32 0]) := ⟨Try.zeroValue33⟩
instance : UndT Try.prog 33 (Go.TypeDesc.array 3 32) := ⟨Try.underlying33⟩
instance : SizeT Try.prog 34 5 := ⟨Try.sizeOf34⟩
instance : AggT Try.prog 34 true := ⟨Try.isAgg34⟩
instance : ZeroT Try.prog 34 (Go.Value.agg #[Go.Value.int Go.IntKind.i64 0, Go.Value.int Go.IntKind.i64 0, Go.Value.float Go.FloatKind.f32 0, Go.Value.float Go.FloatKind.f32 0, Go.Value.float Go.FloatKind.f32 0]) := ⟨Try.zeroValue34⟩
instance : FieldT Try.prog 34 0 0 := ⟨fun a w => by simp [Instr.fieldAt, Instr.sureAddr, Try.runUnderlying34, fieldPlace]⟩
instance : FieldT Try.prog 34 1 1 := ⟨fun a w => by simp [Instr.fieldAt, Instr.sureAddr, Try.runUnderlying34, fieldPlace]⟩
instance : FieldT Try.prog 34 2 2 := ⟨fun a w => by simp [Instr.fieldAt, Instr.sureAddr, Try.runUnderlying34, fieldPlace]⟩
instance : SizeT Try.prog 35 5 := ⟨Try.sizeOf35⟩
instance : AggT Try.prog 35 true := ⟨Try.isAgg35⟩
instance : ZeroT Try.prog 35 (Go.Value.agg #[Go.Value.int Go.IntKind.i64 0, Go.Value.int Go.IntKind.i64 0, Go.Value.float Go.FloatKind.f32 0, Go.Value.float Go.FloatKind.f32 0, Go.Value.float Go.FloatKind.f32 0]) := ⟨Try.zeroValue35⟩
instance : FieldT Try.prog 35 0 0 := ⟨fun a w => by simp [Instr.fieldAt, Instr.sureAddr, Try.runUnderlying35, fieldPlace]⟩
instance : FieldT Try.prog 35 1 1 := ⟨fun a w => by simp [Instr.fieldAt, Instr.sureAddr, Try.runUnderlying35, fieldPlace]⟩
instance : FieldT Try.prog 35 2 2 := ⟨fun a w => by simp [Instr.fieldAt, Instr.sureAddr, Try.runUnderlying35, fieldPlace]⟩
instance : SizeT Try.prog 36 20 := ⟨Try.sizeOf36⟩
instance : AggT Try.prog 36 true := ⟨Try.isAgg36⟩
instance : ZeroT Try.prog 36 (Go.Value.agg #[Go.Value.int Go.IntKind.u8 0, Go.Value.int Go.IntKind.u8 0, Go.Value.int Go.IntKind.u8 0, Go.Value.int Go.IntKind.u8 0, Go.Value.int Go.IntKind.u8 0, Go.Value.int Go.IntKind.u8 0, Go.Value.int Go.IntKind.u8 0, Go.Value.int Go.IntKind.u8 0, Go.Value.int Go.IntKind.u8 0, Go.Value.int Go.IntKind.u8 0, Go.Value.int Go.IntKind.u8 0, Go.Value.int Go.IntKind.u8 0, Go.Value.int Go.IntKind.u8 0, Go.Value.int Go.IntKind.u8 0, Go.Value.int Go.IntKind.u8 0, Go.Value.int Go.IntKind.u8 0, Go.Value.int Go.IntKind.u8 0, Go.Value.int Go.IntKind.u8 0, Go.Value.int Go.IntKind.u8 0, Go.Value.int Go.IntKind.u8 0]) := ⟨Try.zeroValue36⟩
instance : UndT Try.prog 36 (Go.TypeDesc.array 20 5) := ⟨Try.underlying36⟩
instance : SizeT Try.prog 37 1 := ⟨Try.sizeOf37⟩
instance : AggT Try.prog 37 false := ⟨Try.isAgg37⟩
instance : ZeroT Try.prog 37 (Go.Value.int Go.IntKind.i64 0) := ⟨Try.zeroValue37⟩
instance : UndT Try.prog 37 (Go.TypeDesc.int Go.IntKind.i64) := ⟨Try.underlying37⟩
instance : SizeT Try.prog 38 1 := ⟨Try.sizeOf38⟩
instance : AggT Try.prog 38 false := ⟨Try.isAgg38⟩
instance : ZeroT Try.prog 38 (Go.Value.tuple #[Go.Value.agg #[Go.Value.int Go.IntKind.u8 0, Go.Value.int Go.IntKind.u8 0, Go.Value.int Go.IntKind.u8 0, Go.Value.int Go.IntKind.u8 0, Go.Value.int Go.IntKind.u8 0, Go.Value.int Go.IntKind.u8 0, Go.Value.int Go.IntKind.u8 0, Go.Value.int Go.IntKind.u8 0, Go.Value.int Go.IntKind.u8 0, Go.Value.int Go.IntKind.u8 0, Go.Value.int Go.IntKind.u8 0, Go.Value.int Go.IntKind.u8 0, Go.Value.int Go.IntKind.u8 0, Go.Value.int Go.IntKind.u8 0, Go.Value.int Go.IntKind.u8 0, Go.Value.int Go.IntKind.u8 0, Go.Value.int Go.IntKind.u8 0, Go.Value.int Go.IntKind.u8 0, Go.Value.int Go.IntKind.u8 0, Go.Value.int Go.IntKind.u8 0], Go.Value.int Go.IntKind.i64 0]) := ⟨Try.zeroValue38⟩
instance : SizeT Try.prog 39 1 := ⟨Try.sizeOf39⟩
instance : AggT Try.prog 39 false := ⟨Try.isAgg39⟩
instance : ZeroT Try.prog 39 (Go.Value.nilFunc) := ⟨Try.zeroValue39⟩
instance : SizeT Try.prog 40 4 := ⟨Try.sizeOf40⟩
instance : AggT Try.prog 40 true := ⟨Try.isAgg40⟩
instance : ZeroT Try.prog 40 (Go.Value.agg #[Go.Value.string { data := #[] }, Go.Value.int Go.IntKind.i64 0, Go.Value.slice none 0 0, Go.Value.slice none 0 0]) := ⟨Try.zeroValue40⟩
instance : FieldT Try.prog 40 0 0 := ⟨fun a w => by simp [Instr.fieldAt, Instr.sureAddr, Try.runUnderlying40, fieldPlace]⟩
instance : FieldT Try.prog 40 1 1 := ⟨fun a w => by simp [Instr.fieldAt, Instr.sureAddr, Try.runUnderlying40, fieldPlace]⟩
instance : FieldT Try.prog 40 2 2 := ⟨fun a w => by simp [Instr.fieldAt, Instr.sureAddr, Try.runUnderlying40, fieldPlace]⟩
instance : FieldT Try.prog 40 3 3 := ⟨fun a w => by simp [Instr.fieldAt, Instr.sureAddr, Try.runUnderlying40, fieldPlace]⟩
instance : SizeT Try.prog 41 1 := ⟨Try.sizeOf41⟩
instance : AggT Try.prog 41 false := ⟨Try.isAgg41⟩
instance : ZeroT Try.prog 41 (Go.Value.tuple #[Go.Value.agg #[Go.Value.string { data := #[] }, Go.Value.int Go.IntKind.i64 0, Go.Value.slice none 0 0, Go.Value.slice none 0 0], Go.Value.bool false]) := ⟨Try.zeroValue41⟩
instance : SizeT Try.prog 42 1 := ⟨Try.sizeOf42⟩
instance : AggT Try.prog 42 false := ⟨Try.isAgg42⟩
instance : ZeroT Try.prog 42 (Go.Value.nilFunc) := ⟨Try.zeroValue42⟩
instance : SizeT Try.prog 43 1 := ⟨Try.sizeOf43⟩
instance : AggT Try.prog 43 false := ⟨Try.isAgg43⟩
instance : ZeroT Try.prog 43 (Go.Value.slice none 0 0) := ⟨Try.zeroValue43⟩
instance : UndT Try.prog 43 (Go.TypeDesc.slice 35) := ⟨Try.underlying43⟩
instance : SizeT Try.prog 44 1 := ⟨Try.sizeOf44⟩
instance : AggT Try.prog 44 false := ⟨Try.isAgg44⟩
instance : ZeroT Try.prog 44 (Go.Value.tuple #[Go.Value.slice none 0 0, Go.Value.slice none 0 0, Go.Value.int Go.IntKind.i64 0]) := ⟨Try.zeroValue44⟩
instance : SizeT Try.prog 45 1 := ⟨Try.sizeOf45⟩
instance : AggT Try.prog 45 false := ⟨Try.isAgg45⟩
instance : ZeroT Try.prog 45 (Go.Value.nilFunc) := ⟨Try.zeroValue45⟩
instance : SizeT Try.prog 46 1 := ⟨Try.sizeOf46⟩
instance : AggT Try.prog 46 false := ⟨Try.isAgg46⟩
instance : ZeroT Try.prog 46 (Go.Value.slice none 0 0) := ⟨Try.zeroValue46⟩
instance : UndT Try.prog 46 (Go.TypeDesc.slice 3) := ⟨Try.underlying46⟩
instance : SizeT Try.prog 47 1 := ⟨Try.sizeOf47⟩
instance : AggT Try.prog 47 false := ⟨Try.isAgg47⟩
instance : ZeroT Try.prog 47 (Go.Value.tuple #[Go.Value.slice none 0 0, Go.Value.int Go.IntKind.i64 0]) := ⟨Try.zeroValue47⟩
instance : SizeT Try.prog 48 1 := ⟨Try.sizeOf48⟩
instance : AggT Try.prog 48 false := ⟨Try.isAgg48⟩
instance : ZeroT Try.prog 48 (Go.Value.nilFunc) := ⟨Try.zeroValue48⟩
instance : SizeT Try.prog 49 1 := ⟨Try.sizeOf49⟩
instance : AggT Try.prog 49 false := ⟨Try.isAgg49⟩
instance : ZeroT Try.prog 49 (Go.Value.tuple #[Go.Value.float Go.FloatKind.f32 0, Go.Value.bool false, Go.Value.int Go.IntKind.i64 0]) := ⟨Try.zeroValue49⟩
instance : SizeT Try.prog 50 1 := ⟨Try.sizeOf50⟩
instance : AggT Try.prog 50 false := ⟨Try.isAgg50⟩
instance : ZeroT Try.prog 50 (Go.Value.nilFunc) := ⟨Try.zeroValue50⟩
instance : SizeT Try.prog 51 1 := ⟨Try.sizeOf51⟩
instance : AggT Try.prog 51 false := ⟨Try.isAgg51⟩
instance : ZeroT Try.prog 51 (Go.Value.nilFunc) := ⟨Try.zeroValue51⟩
instance : SizeT Try.prog 52 1 := ⟨Try.sizeOf52⟩
instance : AggT Try.prog 52 false := ⟨Try.isAgg52⟩
instance : ZeroT Try.prog 52 (Go.Value.tuple #[Go.Value.agg #[Go.Value.string { data := #[] }, Go.Value.int Go.IntKind.i64 0, Go.Value.slice none 0 0, Go.Value.slice none 0 0], Go.Value.int Go.IntKind.i64 0]) := ⟨Try.zeroValue52⟩
instance : SizeT Try.prog 53 1 := ⟨Try.sizeOf53⟩
instance : AggT Try.prog 53 false := ⟨Try.isAgg53⟩
instance : ZeroT Try.prog 53 (Go.Value.nilFunc) := ⟨Try.zeroValue53⟩
instance : SizeT Try.prog 54 1 := ⟨Try.sizeOf54⟩
instance : AggT Try.prog 54 false := ⟨Try.isAgg54⟩
instance : ZeroT Try.prog 54 (Go.Value.nilFunc) := ⟨Try.zeroValue54⟩
instance : SizeT Try.prog 55 1 := ⟨Try.sizeOf55⟩
instance : AggT Try.prog 55 false := ⟨Try.isAgg55⟩
instance : ZeroT Try.prog 55 (Go.Value.nilFunc) := ⟨Try.zeroValue55⟩
instance : SizeT Try.prog 56 1 := ⟨Try.sizeOf56⟩
instance : AggT Try.prog 56 false := ⟨Try.isAgg56⟩
instance : ZeroT Try.prog 56 (Go.Value.nilFunc) := ⟨Try.zeroValue56⟩
instance : SizeT Try.prog 57 1 := ⟨Try.sizeOf57⟩
instance : AggT Try.prog 57 false := ⟨Try.isAgg57⟩
instance : ZeroT Try.prog 57 (Go.Value.nilFunc) := ⟨Try.zeroValue57⟩
instance : SizeT Try.prog 58 1 := ⟨Try.sizeOf58⟩
instance : AggT Try.prog 58 false := ⟨Try.isAgg58⟩
instance : ZeroT Try.prog 58 (Go.Value.slice none 0 0) := ⟨Try.zeroValue58⟩
instance : UndT Try.prog 58 (Go.TypeDesc.slice 62) := ⟨Try.underlying58⟩
instance : SizeT Try.prog 59 1 := ⟨Try.sizeOf59⟩
instance : AggT Try.prog 59 false := ⟨Try.isAgg59⟩
instance : ZeroT Try.prog 59 (Go.Value.slice none 0 0) := ⟨Try.zeroValue59⟩
instance : UndT Try.prog 59 (Go.TypeDesc.slice 30) := ⟨Try.underlying59⟩
instance : SizeT Try.prog 60 1 := ⟨Try.sizeOf60⟩
instance : AggT Try.prog 60 false := ⟨Try.isAgg60⟩
instance : ZeroT Try.prog 60 (Go.Value.slice none 0 0) := ⟨Try.zeroValue60⟩
instance : UndT Try.prog 60 (Go.TypeDesc.slice 66) := ⟨Try.underlying60⟩
instance : SizeT Try.prog 61 1 := ⟨Try.sizeOf61⟩
instance : AggT Try.prog 61 false := ⟨Try.isAgg61⟩
instance : ZeroT Try.prog 61 (Go.Value.slice none 0 0) := ⟨Try.zeroValue61⟩
instance : UndT Try.prog 61 (Go.TypeDesc.slice 64) := ⟨Try.underlying61⟩
instance : SizeT Try.prog 62 2 := ⟨Try.sizeOf62⟩
instance : AggT Try.prog 62 true := ⟨Try.isAgg62⟩
instance : ZeroT Try.prog 62 (Go.Value.agg #[Go.Value.int Go.IntKind.u8 0, Go.Value.int Go.IntKind.u8 0]) := ⟨Try.zeroValue62⟩
instance : UndT Try.prog 62 (Go.TypeDesc.array 2 5) := ⟨Try.underlying62⟩
instance : SizeT Try.prog 63 2 := ⟨Try.sizeOf63⟩
instance : AggT Try.prog 63 true := ⟨Try.isAgg63⟩
instance : ZeroT Try.prog 63 (Go.Value.agg #[Go.Value.int Go.IntKind.i64 0, Go.Value.int Go.IntKind.i64 0]) := ⟨Try.zeroValue63⟩
instance : FieldT Try.prog 63 0 0 := ⟨fun a w => by simp [Instr.fieldAt, Instr.sureAddr, Try.runUnderlying63, fieldPlace]⟩
instance : FieldT Try.prog 63 1 1 := ⟨fun a w => by simp [Instr.fieldAt, Instr.sureAddr, Try.runUnderlying63, fieldPlace]⟩
instance : SizeT Try.prog 64 2 := ⟨Try.sizeOf64⟩
instance : AggT Try.prog 64 true := ⟨Try.isAgg64⟩
instance : ZeroT Try.prog 64 (Go.Value.agg #[Go.Value.int Go.IntKind.i64 0, Go.Value.int Go.IntKind.i64 0]) := ⟨Try.zeroValue64⟩
instance : FieldT Try.prog 64 0 0 := ⟨fun a w => by simp [Instr.fieldAt, Instr.sureAddr, Try.runUnderlying64, fieldPlace]⟩
instance : FieldT Try.prog 64 1 1 := ⟨fun a w => by simp [Instr.fieldAt, Instr.sureAddr, Try.runUnderlying64, fieldPlace]⟩
instance : SizeT Try.prog 65 3 := ⟨Try.sizeOf65⟩
instance : AggT Try.prog 65 true := ⟨Try.isAgg65⟩
instance : ZeroT Try.prog 65 (Go.Value.agg #[Go.Value.int Go.IntKind.i64 0, Go.Value.int Go.IntKind.i64 0, Go.Value.int Go.IntKind.i64 0]) := ⟨Try.zeroValue65⟩
instance : FieldT Try.prog 65 0 0 := ⟨fun a w => by simp [Instr.fieldAt, Instr.sureAddr, Try.runUnderlying65, fieldPlace]⟩
instance : FieldT Try.prog 65 1 1 := ⟨fun a w => by simp [Instr.fieldAt, Instr.sureAddr, Try.runUnderlying65, fieldPlace]⟩
instance : FieldT Try.prog 65 2 2 := ⟨fun a w => by simp [Instr.fieldAt, Instr.sureAddr, Try.runUnderlying65, fieldPlace]⟩
instance : SizeT Try.prog 66 3 := ⟨Try.sizeOf66⟩
instance : AggT Try.prog 66 true := ⟨Try.isAgg66⟩
instance : ZeroT Try.prog 66 (Go.Value.agg #[Go.Value.int Go.IntKind.i64 0, Go.Value.int Go.IntKind.i64 0, Go.Value.int Go.IntKind.i64 0]) := ⟨Try.zeroValue66⟩
instance : FieldT Try.prog 66 0 0 := ⟨fun a w => by simp [Instr.fieldAt, Instr.sureAddr, Try.runUnderlying66, fieldPlace]⟩
instance : FieldT Try.prog 66 1 1 := ⟨fun a w => by simp [Instr.fieldAt, Instr.sureAddr, Try.runUnderlying66, fieldPlace]⟩
instance : FieldT Try.prog 66 2 2 := ⟨fun a w => by simp [Instr.fieldAt, Instr.sureAddr, Try.runUnderlying66, fieldPlace]⟩
instance : SizeT Try.prog 67 1 := ⟨Try.sizeOf67⟩
instance : AggT Try.prog 67 false := ⟨Try.isAgg67⟩
instance : ZeroT Try.prog 67 (Go.Value.tuple #[Go.Value.slice none 0 0, Go.Value.int Go.IntKind.i64 0]) := ⟨Try.zeroValue67⟩
instance : SizeT Try.prog 68 1 := ⟨Try.sizeOf68⟩
instance : AggT Try.prog 68 false := ⟨Try.isAgg68⟩
instance : ZeroT Try.prog 68 (Go.Value.nilFunc) := ⟨Try.zeroValue68⟩
instance : SizeT Try.prog 69 2 := ⟨Try.sizeOf69⟩
instance : AggT Try.prog 69 true := ⟨Try.isAgg69⟩
instance : ZeroT Try.prog 69 (Go.Value.agg #[Go.Value.int Go.IntKind.i64 0, Go.Value.int Go.IntKind.i64 0]) := ⟨Try.zeroValue69⟩
instance : FieldT Try.prog 69 0 0 := ⟨fun a w => by simp [Instr.fieldAt, Instr.sureAddr, Try.runUnderlying69, fieldPlace]⟩
instance : FieldT Try.prog 69 1 1 := ⟨fun a w => by simp [Instr.fieldAt, Instr.sureAddr, Try.runUnderlying69, fieldPlace]⟩
instance : SizeT Try.prog 70 2 := ⟨Try.sizeOf70⟩
instance : AggT Try.prog 70 true := ⟨Try.isAgg70⟩
instance : ZeroT Try.prog 70 (Go.Value.agg #[Go.Value.int Go.IntKind.i64 0, Go.Value.int Go.IntKind.i64 0]) := ⟨Try.zeroValue70⟩
instance : FieldT Try.prog 70 0 0 := ⟨fun a w => by simp [Instr.fieldAt, Instr.sureAddr, Try.runUnderlying70, fieldPlace]⟩
instance : FieldT Try.prog 70 1 1 := ⟨fun a w => by simp [Instr.fieldAt, Instr.sureAddr, Try.runUnderlying70, fieldPlace]⟩
instance : SizeT Try.prog 71 9 := ⟨Try.sizeOf71⟩
instance : AggT Try.prog 71 true := ⟨Try.isAgg71⟩
instance : ZeroT Try.prog 71 (Go.Value.agg #[Go.Value.string { data := #[] }, Go.Value.int Go.IntKind.i64 0, Go.Value.int Go.IntKind.i64 0, Go.Value.int Go.IntKind.i64 0, Go.Value.int Go.IntKind.i64 0, Go.Value.int Go.IntKind.i64 0, Go.Value.int Go.IntKind.i64 0, Go.Value.int Go.IntKind.i64 0, Go.Value.int Go.IntKind.i64 0]) := ⟨Try.zeroValue71⟩
instance : FieldT Try.prog 71 0 0 := ⟨fun a w => by simp [Instr.fieldAt, Instr.sureAddr, Try.runUnderlying71, fieldPlace]⟩
instance : FieldT Try.prog 71 1 1 := ⟨fun a w => by simp [Instr.fieldAt, Instr.sureAddr, Try.runUnderlying71, fieldPlace]⟩
instance : FieldT Try.prog 71 2 3 := ⟨fun a w => by simp [Instr.fieldAt, Instr.sureAddr, Try.runUnderlying71, fieldPlace]⟩
instance : FieldT Try.prog 71 3 5 := ⟨fun a w => by simp [Instr.fieldAt, Instr.sureAddr, Try.runUnderlying71, fieldPlace]⟩
instance : FieldT Try.prog 71 4 7 := ⟨fun a w => by simp [Instr.fieldAt, Instr.sureAddr, Try.runUnderlying71, fieldPlace]⟩
instance : SizeT Try.prog 72 9 := ⟨Try.sizeOf72⟩
instance : AggT Try.prog 72 true := ⟨Try.isAgg72⟩
instance : ZeroT Try.prog 72 (Go.Value.agg #[Go.Value.string { data := #[] }, Go.Value.int Go.IntKind.i64 0, Go.Value.int Go.IntKind.i64 0, Go.Value.int Go.IntKind.i64 0, Go.Value.int Go.IntKind.i64 0, Go.Value.int Go.IntKind.i64 0, Go.Value.int Go.IntKind.i64 0, Go.Value.int Go.IntKind.i64 0, Go.Value.int Go.IntKind.i64 0]) := ⟨Try.zeroValue72⟩
instance : FieldT Try.prog 72 0 0 := ⟨fun a w => by simp [Instr.fieldAt, Instr.sureAddr, Try.runUnderlying72, fieldPlace]⟩
instance : FieldT Try.prog 72 1 1 := ⟨fun a w => by simp [Instr.fieldAt, Instr.sureAddr, Try.runUnderlying72, fieldPlace]⟩
instance : FieldT Try.prog 72 2 3 := ⟨fun a w => by simp [Instr.fieldAt, Instr.sureAddr, Try.runUnderlying72, fieldPlace]⟩
instance : FieldT Try.prog 72 3 5 := ⟨fun a w => by simp [Instr.fieldAt, Instr.sureAddr, Try.runUnderlying72, fieldPlace]⟩
instance : FieldT Try.prog 72 4 7 := ⟨fun a w => by simp [Instr.fieldAt, Instr.sureAddr, Try.runUnderlying72, fieldPlace]⟩
instance : SizeT Try.prog 73 1 := ⟨Try.sizeOf73⟩
instance : AggT Try.prog 73 false := ⟨Try.isAgg73⟩
instance : ZeroT Try.prog 73 (Go.Value.slice none 0 0) := ⟨Try.zeroValue73⟩
instance : UndT Try.prog 73 (Go.TypeDesc.slice 72) := ⟨Try.underlying73⟩
instance : SizeT Try.prog 74 1 := ⟨Try.sizeOf74⟩
instance : AggT Try.prog 74 false := ⟨Try.isAgg74⟩
instance : ZeroT Try.prog 74 (Go.Value.slice none 0 0) := ⟨Try.zeroValue74⟩
instance : UndT Try.prog 74 (Go.TypeDesc.slice 46) := ⟨Try.underlying74⟩
instance : SizeT Try.prog 75 1 := ⟨Try.sizeOf75⟩
instance : AggT Try.prog 75 false := ⟨Try.isAgg75⟩
instance : ZeroT Try.prog 75 (Go.Value.tuple #[Go.Value.slice none 0 0, Go.Value.int Go.IntKind.i64 0]) := ⟨Try.zeroValue75⟩
instance : SizeT Try.prog 76 1 := ⟨Try.sizeOf76⟩
instance : AggT Try.prog 76 false := ⟨Try.isAgg76⟩
instance : ZeroT Try.prog 76 (Go.Value.nilFunc) := ⟨Try.zeroValue76⟩
instance : SizeT Try.prog 77 1 := ⟨Try.sizeOf77⟩
instance : AggT Try.prog 77 false := ⟨Try.isAgg77⟩
instance : ZeroT Try.prog 77 (Go.Value.slice none 0 0) := ⟨Try.zeroValue77⟩
instance : UndT Try.prog 77 (Go.TypeDesc.slice 82) := ⟨Try.underlying77⟩
instance : SizeT Try.prog 78 1 := ⟨Try.sizeOf78⟩
instance : AggT Try.prog 78 false := ⟨Try.isAgg78⟩
instance : ZeroT Try.prog 78 (Go.Value.tuple #[Go.Value.slice none 0 0, Go.Value.int Go.IntKind.i64 0]) := ⟨Try.zeroValue78⟩
instance : SizeT Try.prog 79 1 := ⟨Try.sizeOf79⟩
instance : AggT Try.prog 79 false := ⟨Try.isAgg79⟩
instance : ZeroT Try.prog 79 (Go.Value.nilFunc) := ⟨Try.zeroValue79⟩
instance : SizeT Try.prog 80 1 := ⟨Try.sizeOf80⟩
instance : AggT Try.prog 80 false := ⟨Try.isAgg80⟩
instance : ZeroT Try.prog 80 (Go.Value.nilFunc) := ⟨Try.zeroValue80⟩
instance : SizeT Try.prog 81 1 := ⟨Try.sizeOf81⟩
instance : AggT Try.prog 81 false := ⟨Try.isAgg81⟩
instance : ZeroT Try.prog 81 (Go.Value.nilFunc) := ⟨Try.zeroValue81⟩
instance : SizeT Try.prog 82 1 := ⟨Try.sizeOf82⟩
instance : AggT Try.prog 82 false := ⟨Try.isAgg82⟩
instance : ZeroT Try.prog 82 (Go.Value.slice none 0 0) := ⟨Try.zeroValue82⟩
instance : UndT Try.prog 82 (Go.TypeDesc.slice 9) := ⟨Try.underlying82⟩
instance : SizeT Try.prog 83 1 := ⟨Try.sizeOf83⟩
instance : AggT Try.prog 83 false := ⟨Try.isAgg83⟩
instance : ZeroT Try.prog 83 (Go.Value.nilFunc) := ⟨Try.zeroValue83⟩
instance : SizeT Try.prog 84 1 := ⟨Try.sizeOf84⟩
instance : AggT Try.prog 84 false := ⟨Try.isAgg84⟩
instance : ZeroT Try.prog 84 (Go.Value.nilFunc) := ⟨Try.zeroValue84⟩
instance : SizeT Try.prog 85 12 := ⟨Try.sizeOf85⟩
instance : AggT Try.prog 85 true := ⟨Try.isAgg85⟩
instance : ZeroT Try.prog 85 (Go.Value.agg #[Go.Value.string { data := #[] }, Go.Value.int Go.IntKind.i64 0, Go.Value.slice none 0 0, Go.Value.slice none 0 0, Go.Value.string { data := #[] }, Go.Value.int Go.IntKind.i64 0, Go.Value.slice none 0 0, Go.Value.slice none 0 0, Go.Value.string { data := #[] }, Go.Value.int Go.IntKind.i64 0, Go.Value.slice none 0 0, Go.Value.slice none 0 0]) := ⟨Try.zeroValue85⟩
instance : UndT Try.prog 85 (Go.TypeDesc.array 3 40) := ⟨Try.underlying85⟩
instance : SizeT Try.prog 86 3 := ⟨Try.sizeOf86⟩
instance : AggT Try.prog 86 true := ⟨Try.isAgg86⟩
instance : ZeroT Try.prog 86 (Go.Value.agg #[Go.Value.int Go.IntKind.u8 0, Go.Value.int Go.IntKind.u8 0, Go.Value.int Go.IntKind.u8 0]) := ⟨Try.zeroValue86⟩
instance : UndT Try.prog 86 (Go.TypeDesc.array 3 5) := ⟨Try.underlying86⟩
instance : SizeT Try.prog 87 1 := ⟨Try.sizeOf87⟩
instance : AggT Try.prog 87 false := ⟨Try.isAgg87⟩
instance : ZeroT Try.prog 87 (Go.Value.nilFunc) := ⟨Try.zeroValue87⟩
instance : SizeT Try.prog 88 1 := ⟨Try.sizeOf88⟩
instance : AggT Try.prog 88 false := ⟨Try.isAgg88⟩
instance : ZeroT Try.prog 88 (Go.Value.nilFunc) := ⟨Try.zeroValue88⟩
instance : SizeT Try.prog 89 1 := ⟨Try.sizeOf89⟩
instance : AggT Try.prog 89 false := ⟨Try.isAgg89⟩
instance : ZeroT Try.prog 89 (Go.Value.nilFunc) := ⟨Try.zeroValue89⟩
instance : SizeT Try.prog 90 12 := ⟨Try.sizeOf90⟩
instance : AggT Try.prog 90 true := ⟨Try.isAgg90⟩
instance : ZeroT Try.prog 90 (Go.Value.agg #[Go.Value.string { data := #[] }, Go.Value.int Go.IntKind.i64 0, Go.Value.slice none 0 0, Go.Value.slice none 0 0, Go.Value.string { data := #[] }, Go.Value.int Go.IntKind.i64 0, Go.Value.slice none 0 0, Go.Value.slice none 0 0, Go.Value.string { data := #[] }, Go.Value.int Go.IntKind.i64 0, Go.Value.slice none 0 0, Go.Value.slice none 0 0]) := ⟨Try.zeroValue90⟩
instance : UndT Try.prog 90 (Go.TypeDesc.array 3 28) := ⟨Try.underlying90⟩
instance : SizeT Try.prog 91 1 := ⟨Try.sizeOf91⟩
instance : AggT Try.prog 91 false := ⟨Try.isAgg91⟩
instance : ZeroT Try.prog 91 (Go.Value.nilFunc) := ⟨Try.zeroValue91⟩
instance : SizeT Try.prog 92 1 := ⟨Try.sizeOf92⟩
instance : AggT Try.prog 92 false := ⟨Try.isAgg92⟩
instance : ZeroT Try.prog 92 (Go.Value.tuple #[Go.Value.agg #[Go.Value.string { data := #[] }, Go.Value.int Go.IntKind.i64 0, Go.Value.slice none 0 0, Go.Value.slice none 0 0, Go.Value.string { data := #[] }, Go.Value.int Go.IntKind.i64 0, Go.Value.slice none 0 0, Go.Value.slice none 0 0, Go.Value.string { data := #[] }, Go.Value.int Go.IntKind.i64 0, Go.Value.slice none 0 0, Go.Value.slice none 0 0], Go.Value.bool false]) := ⟨Try.zeroValue92⟩
instance : SizeT Try.prog 93 3 := ⟨Try.sizeOf93⟩
instance : AggT Try.prog 93 true := ⟨Try.isAgg93⟩
instance : ZeroT Try.prog 93 (Go.Value.agg #[Go.Value.int Go.IntKind.i64 0, Go.Value.int Go.IntKind.i64 0, Go.Value.int Go.IntKind.i64 0]) := ⟨Try.zeroValue93⟩
instance : UndT Try.prog 93 (Go.TypeDesc.array 3 3) := ⟨Try.underlying93⟩
instance : SizeT Try.prog 94 1 := ⟨Try.sizeOf94⟩
instance : AggT Try.prog 94 false := ⟨Try.isAgg94⟩
instance : ZeroT Try.prog 94 (Go.Value.tuple #[Go.Value.agg #[Go.Value.string { data := #[] }, Go.Value.int Go.IntKind.i64 0, Go.Value.slice none 0 0, Go.Value.slice none 0 0], Go.Value.agg #[Go.Value.int Go.IntKind.i64 0, Go.Value.int Go.IntKind.i64 0, Go.Value.int Go.IntKind.i64 0], Go.Value.int Go.IntKind.i64 0]) := ⟨Try.zeroValue94⟩
instance : SizeT Try.prog 95 1 := ⟨Try.sizeOf95⟩
instance : AggT Try.prog 95 false := ⟨Try.isAgg95⟩
instance : ZeroT Try.prog 95 (Go.Value.nilFunc) := ⟨Try.zeroValue95⟩
instance : SizeT Try.prog 96 1 := ⟨Try.sizeOf96⟩
instance : AggT Try.prog 96 false := ⟨Try.isAgg96⟩
instance : ZeroT Try.prog 96 (Go.Value.nilFunc) := ⟨Try.zeroValue96⟩
instance : SizeT Try.prog 97 1 := ⟨Try.sizeOf97⟩
instance : AggT Try.prog 97 false := ⟨Try.isAgg97⟩
instance : ZeroT Try.prog 97 (Go.Value.nilFunc) := ⟨Try.zeroValue97⟩
instance : SizeT Try.prog 98 1 := ⟨Try.sizeOf98⟩
instance : AggT Try.prog 98 false := ⟨Try.isAgg98⟩
instance : ZeroT Try.prog 98 (Go.Value.nilFunc) := ⟨Try.zeroValue98⟩
instance : SizeT Try.prog 99 1 := ⟨Try.sizeOf99⟩
instance : AggT Try.prog 99 false := ⟨Try.isAgg99⟩
instance : ZeroT Try.prog 99 (Go.Value.nilFunc) := ⟨Try.zeroValue99⟩
instance : SizeT Try.prog 100 2 := ⟨Try.sizeOf100⟩
instance : AggT Try.prog 100 true := ⟨Try.isAgg100⟩
instance : ZeroT Try.prog 100 (Go.Value.agg #[Go.Value.int Go.IntKind.i64 0, Go.Value.int Go.IntKind.i64 0]) := ⟨Try.zeroValue100⟩
instance : FieldT Try.prog 100 0 0 := ⟨fun a w => by simp [Instr.fieldAt, Instr.sureAddr, Try.runUnderlying100, fieldPlace]⟩
instance : FieldT Try.prog 100 1 1 := ⟨fun a w => by simp [Instr.fieldAt, Instr.sureAddr, Try.runUnderlying100, fieldPlace]⟩
instance : SizeT Try.prog 101 2 := ⟨Try.sizeOf101⟩
instance : AggT Try.prog 101 true := ⟨Try.isAgg101⟩
instance : ZeroT Try.prog 101 (Go.Value.agg #[Go.Value.int Go.IntKind.i64 0, Go.Value.int Go.IntKind.i64 0]) := ⟨Try.zeroValue101⟩
instance : FieldT Try.prog 101 0 0 := ⟨fun a w => by simp [Instr.fieldAt, Instr.sureAddr, Try.runUnderlying101, fieldPlace]⟩
instance : FieldT Try.prog 101 1 1 := ⟨fun a w => by simp [Instr.fieldAt, Instr.sureAddr, Try.runUnderlying101, fieldPlace]⟩
instance : SizeT Try.prog 102 1 := ⟨Try.sizeOf102⟩
instance : AggT Try.prog 102 false := ⟨Try.isAgg102⟩
instance : ZeroT Try.prog 102 (Go.Value.nilFunc) := ⟨Try.zeroValue102⟩
instance : SizeT Try.prog 103 1 := ⟨Try.sizeOf103⟩
instance : AggT Try.prog 103 false := ⟨Try.isAgg103⟩
instance : ZeroT Try.prog 103 (Go.Value.nilFunc) := ⟨Try.zeroValue103⟩
instance : SizeT Try.prog 104 1 := ⟨Try.sizeOf104⟩
instance : AggT Try.prog 104 false := ⟨Try.isAgg104⟩
instance : ZeroT Try.prog 104 (Go.Value.tuple #[Go.Value.int Go.IntKind.i64 0, Go.Value.int Go.IntKind.i64 0]) := ⟨Try.zeroValue104⟩
instance : SizeT Try.prog 105 1 := ⟨Try.sizeOf105⟩
instance : AggT Try.prog 105 false := ⟨Try.isAgg105⟩
instance : ZeroT Try.prog 105 (Go.Value.nilFunc) := ⟨Try.zeroValue105⟩
instance : SizeT Try.prog 106 1 := ⟨Try.sizeOf106⟩
instance : AggT Try.prog 106 false := ⟨Try.isAgg106⟩
instance : ZeroT Try.prog 106 (Go.Value.nilFunc) := ⟨Try.zeroValue106⟩
instance : SizeT Try.prog 107 1 := ⟨Try.sizeOf107⟩
instance : AggT Try.prog 107 false := ⟨Try.isAgg107⟩
instance : ZeroT Try.prog 107 (Go.Value.nilFunc) := ⟨Try.zeroValue107⟩
instance : SizeT Try.prog 108 1 := ⟨Try.sizeOf108⟩
instance : AggT Try.prog 108 false := ⟨Try.isAgg108⟩
instance : ZeroT Try.prog 108 (Go.Value.slice none 0 0) := ⟨Try.zeroValue108⟩
instance : UndT Try.prog 108 (Go.TypeDesc.slice 193) := ⟨Try.underlying108⟩
instance : SizeT Try.prog 109 2 := ⟨Try.sizeOf109⟩
instance : AggT Try.prog 109 true := ⟨Try.isAgg109⟩
instance : ZeroT Try.prog 109 (Go.Value.agg #[Go.Value.slice none 0 0, Go.Value.slice none 0 0]) := ⟨Try.zeroValue109⟩
instance : UndT Try.prog 109 (Go.TypeDesc.array 2 108) := ⟨Try.underlying109⟩
instance : SizeT Try.prog 110 1 := ⟨Try.sizeOf110⟩
instance : AggT Try.prog 110 false := ⟨Try.isAgg110⟩
instance : ZeroT Try.prog 110 (Go.Value.nilFunc) := ⟨Try.zeroValue110⟩
instance : SizeT Try.prog 111 1 := ⟨Try.sizeOf111⟩
instance : AggT Try.prog 111 false := ⟨Try.isAgg111⟩
instance : ZeroT Try.prog 111 (Go.Value.nilFunc) := ⟨Try.zeroValue111⟩
instance : SizeT Try.prog 112 1 := ⟨Try.sizeOf112⟩
instance : AggT Try.prog 112 false := ⟨Try.isAgg112⟩
instance : ZeroT Try.prog 112 (Go.Value.nilFunc) := ⟨Try.zeroValue112⟩
instance : SizeT Try.prog 113 1 := ⟨Try.sizeOf113⟩
instance : AggT Try.prog 113 false := ⟨Try.isAgg113⟩
instance : ZeroT Try.prog 113 (Go.Value.nilFunc) := ⟨Try.zeroValue113⟩
instance : SizeT Try.prog 114 4 := ⟨Try.sizeOf114⟩
instance : AggT Try.prog 114 true := ⟨Try.isAgg114⟩
instance : ZeroT Try.prog 114 (Go.Value.agg #[Go.Value.int Go.IntKind.i64 0, Go.Value.int Go.IntKind.i64 0, Go.Value.int Go.IntKind.i64 0, Go.Value.int Go.IntKind.i64 0]) := ⟨Try.zeroValue114⟩
instance : FieldT Try.prog 114 0 0 := ⟨fun a w => by simp [Instr.fieldAt, Instr.sureAddr, Try.runUnderlying114, fieldPlace]⟩
instance : FieldT Try.prog 114 1 1 := ⟨fun a w => by simp [Instr.fieldAt, Instr.sureAddr, Try.runUnderlying114, fieldPlace]⟩
instance : FieldT Try.prog 114 2 2 := ⟨fun a w => by simp [Instr.fieldAt, Instr.sureAddr, Try.runUnderlying114, fieldPlace]⟩
instance : FieldT Try.prog 114 3 3 := ⟨fun a w => by simp [Instr.fieldAt, Instr.sureAddr, Try.runUnderlying114, fieldPlace]⟩
instance : SizeT Try.prog 115 4 := ⟨Try.sizeOf115⟩
instance : AggT Try.prog 115 true := ⟨Try.isAgg115⟩
instance : ZeroT Try.prog 115 (Go.Value.agg #[Go.Value.int Go.IntKind.i64 0, Go.Value.int Go.IntKind.i64 0, Go.Value.int Go.IntKind.i64 0, Go.Value.int Go.IntKind.i64 0]) := ⟨Try.zeroValue115⟩
instance : FieldT Try.prog 115 0 0 := ⟨fun a w => by simp [Instr.fieldAt, Instr.sureAddr, Try.runUnderlying115, fieldPlace]⟩
instance : FieldT Try.prog 115 1 1 := ⟨fun a w => by simp [Instr.fieldAt, Instr.sureAddr, Try.runUnderlying115, fieldPlace]⟩
instance : FieldT Try.prog 115 2 2 := ⟨fun a w => by simp [Instr.fieldAt, Instr.sureAddr, Try.runUnderlying115, fieldPlace]⟩
instance : FieldT Try.prog 115 3 3 := ⟨fun a w => by simp [Instr.fieldAt, Instr.sureAddr, Try.runUnderlying115, fieldPlace]⟩
instance : SizeT Try.prog 116 1 := ⟨Try.sizeOf116⟩
instance : AggT Try.prog 116 false := ⟨Try.isAgg116⟩
instance : ZeroT Try.prog 116 (Go.Value.slice none 0 0) := ⟨Try.zeroValue116⟩
instance : UndT Try.prog 116 (Go.TypeDesc.slice 115) := ⟨Try.underlying116⟩
instance : SizeT Try.prog 117 1 := ⟨Try.sizeOf117⟩
instance : AggT Try.prog 117 false := ⟨Try.isAgg117⟩
instance : ZeroT Try.prog 117 (Go.Value.slice none 0 0) := ⟨Try.zeroValue117⟩
instance : UndT Try.prog 117 (Go.TypeDesc.slice 133) := ⟨Try.underlying117⟩
instance : SizeT Try.prog 118 2 := ⟨Try.sizeOf118⟩
instance : AggT Try.prog 118 true := ⟨Try.isAgg118⟩
instance : ZeroT Try.prog 118 (Go.Value.agg #[Go.Value.slice none 0 0, Go.Value.slice none 0 0]) := ⟨Try.zeroValue118⟩
instance : FieldT Try.prog 118 0 0 := ⟨fun a w => by simp [Instr.fieldAt, Instr.sureAddr, Try.runUnderlying118, fieldPlace]⟩
instance : FieldT Try.prog 118 1 1 := ⟨fun a w => by simp [Instr.fieldAt, Instr.sureAddr, Try.runUnderlying118, fieldPlace]⟩
instance : SizeT Try.prog 119 2 := ⟨Try.sizeOf119⟩
instance : AggT Try.prog 119 true := ⟨Try.isAgg119⟩
instance : ZeroT Try.prog 119 (Go.Value.agg #[Go.Value.slice none 0 0, Go.Value.slice none 0 0]) := ⟨Try.zeroValue119⟩
instance : FieldT Try.prog 119 0 0 := ⟨fun a w => by simp [Instr.fieldAt, Instr.sureAddr, Try.runUnderlying119, fieldPlace]⟩
instance : FieldT Try.prog 119 1 1 := ⟨fun a w => by simp [Instr.fieldAt, Instr.sureAddr, Try.runUnderlying119, fieldPlace]⟩
instance : SizeT Try.prog 120 2 := ⟨Try.sizeOf120⟩
instance : AggT Try.prog 120 true := ⟨Try.isAgg120⟩
instance : ZeroT Try.prog 120 (Go.Value.agg #[Go.Value.int Go.IntKind.i64 0, Go.Value.int Go.IntKind.i64 0]) := ⟨Try.zeroValue120⟩
instance : UndT Try.prog 120 (Go.TypeDesc.array 2 3) := ⟨Try.underlying120⟩
instance : SizeT Try.prog 121 1 := ⟨Try.sizeOf121⟩
instance : AggT Try.prog 121 false := ⟨Try.isAgg121⟩
instance : ZeroT Try.prog 121 (Go.Value.tuple #[Go.Value.int Go.IntKind.i64 0, Go.Value.int Go.IntKind.i64 0, Go.Value.int Go.IntKind.i64 0]) := ⟨Try.zeroValue121⟩
instance : SizeT Try.prog 122 1 := ⟨Try.sizeOf122⟩
instance : AggT Try.prog 122 false := ⟨Try.isAgg122⟩
instance : ZeroT Try.prog 122 (Go.Value.nilFunc) := ⟨Try.zeroValue122⟩
instance : SizeT Try.prog 123 1 := ⟨Try.sizeOf123⟩
instance : AggT Try.prog 123 false := ⟨Try.isAgg123⟩
instance : ZeroT Try.prog 123 (Go.Value.slice none 0 0) := ⟨Try.zeroValue123⟩
instance : UndT Try.prog 123 (Go.TypeDesc.slice 64) := ⟨Try.underlying123⟩
instance : SizeT Try.prog 124 1 := ⟨Try.sizeOf124⟩
instance : AggT Try.prog 124 false := ⟨Try.isAgg124⟩
instance : ZeroT Try.prog 124 (Go.Value.nilFunc) := ⟨Try.zeroValue124⟩
instance : SizeT Try.prog 125 1 := ⟨Try.sizeOf125⟩
instance : AggT Try.prog 125 false := ⟨Try.isAgg125⟩
instance : ZeroT Try.prog 125 (Go.Value.nilFunc) := ⟨Try.zeroValue125⟩
instance : SizeT Try.prog 126 1 := ⟨Try.sizeOf126⟩
instance : AggT Try.prog 126 false := ⟨Try.isAgg126⟩
instance : ZeroT Try.prog 126 (Go.Value.nilFunc) := ⟨Try.zeroValue126⟩
instance : SizeT Try.prog 127 1 := ⟨Try.sizeOf127⟩
instance : AggT Try.prog 127 false := ⟨Try.isAgg127⟩
instance : ZeroT Try.prog 127 (Go.Value.tuple #[Go.Value.agg #[Go.Value.int Go.IntKind.i64 0, Go.Value.int Go.IntKind.i64 0], Go.Value.int Go.IntKind.i64 0, Go.Value.int Go.IntKind.i64 0]) := ⟨Try.zeroValue127⟩
instance : SizeT Try.prog 128 1 := ⟨Try.sizeOf128⟩
instance : AggT Try.prog 128 false := ⟨Try.isAgg128⟩
instance : ZeroT Try.prog 128 (Go.Value.nilFunc) := ⟨Try.zeroValue128⟩
instance : SizeT Try.prog 129 1 := ⟨Try.sizeOf129⟩
instance : AggT Try.prog 129 false := ⟨Try.isAgg129⟩
instance : ZeroT Try.prog 129 (Go.Value.tuple #[Go.Value.slice none 0 0, Go.Value.int Go.IntKind.i64 0]) := ⟨Try.zeroValue129⟩
instance : SizeT Try.prog 130 1 := ⟨Try.sizeOf130⟩
instance : AggT Try.prog 130 false := ⟨Try.isAgg130⟩
instance : ZeroT Try.prog 130 (Go.Value.nilFunc) := ⟨Try.zeroValue130⟩
instance : SizeT Try.prog 131 2 := ⟨Try.sizeOf131⟩
instance : AggT Try.prog 131 true := ⟨Try.isAgg131⟩
instance : ZeroT Try.prog 131 (Go.Value.agg #[Go.Value.string { data := #[] }, Go.Value.string { data := #[] }]) := ⟨Try.zeroValue131⟩
instance : UndT Try.prog 131 (Go.TypeDesc.array 2 9) := ⟨Try.underlying131⟩
instance : SizeT Try.prog 132 5 := ⟨Try.sizeOf132⟩
instance : AggT Try.prog 132 true := ⟨Try.isAgg132⟩
instance : ZeroT Try.prog 132 (Go.Value.agg #[Go.Value.string { data := #[] }, Go.Value.int Go.IntKind.i64 0, Go.Value.int Go.IntKind.i64 0, Go.Value.int Go.IntKind.i64 0, Go.Value.int Go.IntKind.i64 0]) := ⟨Try.zeroValue132⟩
instance : FieldT Try.prog 132 0 0 := ⟨fun a w => by simp [Instr.fieldAt, Instr.sureAddr, Try.runUnderlying132, fieldPlace]⟩
instance : FieldT Try.prog 132 1 1 := ⟨fun a w => by simp [Instr.fieldAt, Instr.sureAddr, Try.runUnderlying132, fieldPlace]⟩
instance : FieldT Try.prog 132 2 2 := ⟨fun a w => by simp [Instr.fieldAt, Instr.sureAddr, Try.runUnderlying132, fieldPlace]⟩
instance : FieldT Try.prog 132 3 3 := ⟨fun a w => by simp [Instr.fieldAt, Instr.sureAddr, Try.runUnderlying132, fieldPlace]⟩
instance : FieldT Try.prog 132 4 4 := ⟨fun a w => by simp [Instr.fieldAt, Instr.sureAddr, Try.runUnderlying132, fieldPlace]⟩
instance : SizeT Try.prog 133 5 := ⟨Try.sizeOf133⟩
instance : AggT Try.prog 133 true := ⟨Try.isAgg133⟩
instance : ZeroT Try.prog 133 (Go.Value.agg #[Go.Value.string { data := #[] }, Go.Value.int Go.IntKind.i64 0, Go.Value.int Go.IntKind.i64 0, Go.Value.int Go.IntKind.i64 0, Go.Value.int Go.IntKind.i64 0]) := ⟨Try.zeroValue133⟩
instance : FieldT Try.prog 133 0 0 := ⟨fun a w => by simp [Instr.fieldAt, Instr.sureAddr, Try.runUnderlying133, fieldPlace]⟩
instance : FieldT Try.prog 133 1 1 := ⟨fun a w => by simp [Instr.fieldAt, Instr.sureAddr, Try.runUnderlying133, fieldPlace]⟩
instance : FieldT Try.prog 133 2 2 := ⟨fun a w => by simp [Instr.fieldAt, Instr.sureAddr, Try.runUnderlying133, fieldPlace]⟩
instance : FieldT Try.prog 133 3 3 := ⟨fun a w => by simp [Instr.fieldAt, Instr.sureAddr, Try.runUnderlying133, fieldPlace]⟩
instance : FieldT Try.prog 133 4 4 := ⟨fun a w => by simp [Instr.fieldAt, Instr.sureAddr, Try.runUnderlying133, fieldPlace]⟩
instance : SizeT Try.prog 134 2 := ⟨Try.sizeOf134⟩
instance : AggT Try.prog 134 true := ⟨Try.isAgg134⟩
instance : ZeroT Try.prog 134 (Go.Value.agg #[Go.Value.int Go.IntKind.i64 0, Go.Value.int Go.IntKind.i64 0]) := ⟨Try.zeroValue134⟩
instance : FieldT Try.prog 134 0 0 := ⟨fun a w => by simp [Instr.fieldAt, Instr.sureAddr, Try.runUnderlying134, fieldPlace]⟩
instance : FieldT Try.prog 134 1 1 := ⟨fun a w => by simp [Instr.fieldAt, Instr.sureAddr, Try.runUnderlying134, fieldPlace]⟩
instance : SizeT Try.prog 135 2 := ⟨Try.sizeOf135⟩
instance : AggT Try.prog 135 true := ⟨Try.isAgg135⟩
instance : ZeroT Try.prog 135 (Go.Value.agg #[Go.Value.int Go.IntKind.i64 0, Go.Value.int Go.IntKind.i64 0]) := ⟨Try.zeroValue135⟩
instance : FieldT Try.prog 135 0 0 := ⟨fun a w => by simp [Instr.fieldAt, Instr.sureAddr, Try.runUnderlying135, fieldPlace]⟩
instance : FieldT Try.prog 135 1 1 := ⟨fun a w => by simp [Instr.fieldAt, Instr.sureAddr, Try.runUnderlying135, fieldPlace]⟩
instance : SizeT Try.prog 136 1 := ⟨Try.sizeOf136⟩
instance : AggT Try.prog 136 false := ⟨Try.isAgg136⟩
instance : ZeroT Try.prog 136 (Go.Value.tuple #[Go.Value.slice none 0 0, Go.Value.agg #[Go.Value.int Go.IntKind.i64 0, Go.Value.int Go.IntKind.i64 0], Go.Value.int Go.IntKind.i64 0]) := ⟨Try.zeroValue136⟩
instance : SizeT Try.prog 137 1 := ⟨Try.sizeOf137⟩
instance : AggT Try.prog 137 false := ⟨Try.isAgg137⟩
instance : ZeroT Try.prog 137 (Go.Value.nilFunc) := ⟨Try.zeroValue137⟩
instance : SizeT Try.prog 138 1 := ⟨Try.sizeOf138⟩
instance : AggT Try.prog 138 false := ⟨Try.isAgg138⟩
instance : ZeroT Try.prog 138 (Go.Value.nilFunc) := ⟨Try.zeroValue138⟩
instance : SizeT Try.prog 139 1 := ⟨Try.sizeOf139⟩
instance : AggT Try.prog 139 false := ⟨Try.isAgg139⟩
instance : ZeroT Try.prog 139 (Go.Value.nilFunc) := ⟨Try.zeroValue139⟩
instance : SizeT Try.prog 140 1 := ⟨Try.sizeOf140⟩
instance : AggT Try.prog 140 false := ⟨Try.isAgg140⟩
instance : ZeroT Try.prog 140 (Go.Value.nilFunc) := ⟨Try.zeroValue140⟩
instance : SizeT Try.prog 141 1 := ⟨Try.sizeOf141⟩
instance : AggT Try.prog 141 false := ⟨Try.isAgg141⟩
instance : ZeroT Try.prog 141 (Go.Value.nilFunc) := ⟨Try.zeroValue141⟩
instance : SizeT Try.prog 142 1 := ⟨Try.sizeOf142⟩
instance : AggT Try.prog 142 false := ⟨Try.isAgg142⟩
instance : ZeroT Try.prog 142 (Go.Value.nilFunc) := ⟨Try.zeroValue142⟩
instance : SizeT Try.prog 143 1 := ⟨Try.sizeOf143⟩
instance : AggT Try.prog 143 false := ⟨Try.isAgg143⟩
instance : ZeroT Try.prog 143 (Go.Value.nilFunc) := ⟨Try.zeroValue143⟩
instance : SizeT Try.prog 144 1 := ⟨Try.sizeOf144⟩
instance : AggT Try.prog 144 false := ⟨Try.isAgg144⟩
instance : ZeroT Try.prog 144 (Go.Value.nilFunc) := ⟨Try.zeroValue144⟩
instance : SizeT Try.prog 145 1 := ⟨Try.sizeOf145⟩
instance : AggT Try.prog 145 false := ⟨Try.isAgg145⟩
instance : ZeroT Try.prog 145 (Go.Value.pointer none) := ⟨Try.zeroValue145⟩
instance : UndT Try.prog 145 (Go.TypeDesc.pointer 35) := ⟨Try.underlying145⟩
instance : SizeT Try.prog 146 1 := ⟨Try.sizeOf146⟩
instance : AggT Try.prog 146 false := ⟨Try.isAgg146⟩
instance : ZeroT Try.prog 146 (Go.Value.nilFunc) := ⟨Try.zeroValue146⟩
instance : SizeT Try.prog 147 1 := ⟨Try.sizeOf147⟩
instance : AggT Try.prog 147 false := ⟨Try.isAgg147⟩
instance : ZeroT Try.prog 147 (Go.Value.slice none 0 0) := ⟨Try.zeroValue147⟩
instance : UndT Try.prog 147 (Go.TypeDesc.slice 37) := ⟨Try.underlying147⟩
instance : SizeT Try.prog 148 1 := ⟨Try.sizeOf148⟩
instance : AggT Try.prog 148 false := ⟨Try.isAgg148⟩
instance : ZeroT Try.prog 148 (Go.Value.nilFunc) := ⟨Try.zeroValue148⟩
instance : SizeT Try.prog 149 1 := ⟨Try.sizeOf149⟩
instance : AggT Try.prog 149 false := ⟨Try.isAgg149⟩
instance : ZeroT Try.prog 149 (Go.Value.nilFunc) := ⟨Try.zeroValue149⟩
instance : SizeT Try.prog 150 1 := ⟨Try.sizeOf150⟩
instance : AggT Try.prog 150 false := ⟨Try.isAgg150⟩
instance : ZeroT Try.prog 150 (Go.Value.nilFunc) := ⟨Try.zeroValue150⟩
instance : SizeT Try.prog 151 1 := ⟨Try.sizeOf151⟩
instance : AggT Try.prog 151 false := ⟨Try.isAgg151⟩
instance : ZeroT Try.prog 151 (Go.Value.nilFunc) := ⟨Try.zeroValue151⟩
instance : SizeT Try.prog 152 1 := ⟨Try.sizeOf152⟩
instance : AggT Try.prog 152 false := ⟨Try.isAgg152⟩
instance : ZeroT Try.prog 152 (Go.Value.nilFunc) := ⟨Try.zeroValue152⟩
instance : SizeT Try.prog 153 1 := ⟨Try.sizeOf153⟩
instance : AggT Try.prog 153 false := ⟨Try.isAgg153⟩
instance : ZeroT Try.prog 153 (Go.Value.nilFunc) := ⟨Try.zeroValue153⟩
instance : SizeT Try.prog 154 1 := ⟨Try.sizeOf154⟩
instance : AggT Try.prog 154 false := ⟨Try.isAgg154⟩
instance : ZeroT Try.prog 154 (Go.Value.nilFunc) := ⟨Try.zeroValue154⟩
instance : SizeT Try.prog 155 1 := ⟨Try.sizeOf155⟩
instance : AggT Try.prog 155 false := ⟨Try.isAgg155⟩
instance : ZeroT Try.prog 155 (Go.Value.nilFunc) := ⟨Try.zeroValue155⟩
instance : SizeT Try.prog 156 1 := ⟨Try.sizeOf156⟩
instance : AggT Try.prog 156 false := ⟨Try.isAgg156⟩
instance : ZeroT Try.prog 156 (Go.Value.nilFunc) := ⟨Try.zeroValue156⟩
instance : SizeT Try.prog 157 2 := ⟨Try.sizeOf157⟩
instance : AggT Try.prog 157 true := ⟨Try.isAgg157⟩
instance : ZeroT Try.prog 157 (Go.Value.agg #[Go.Value.int Go.IntKind.i64 0, Go.Value.bool false]) := ⟨Try.zeroValue157⟩
instance : FieldT Try.prog 157 0 0 := ⟨fun a w => by simp [Instr.fieldAt, Instr.sureAddr, Try.runUnderlying157, fieldPlace]⟩
instance : FieldT Try.prog 157 1 1 := ⟨fun a w => by simp [Instr.fieldAt, Instr.sureAddr, Try.runUnderlying157, fieldPlace]⟩
instance : SizeT Try.prog 158 2 := ⟨Try.sizeOf158⟩
instance : AggT Try.prog 158 true := ⟨Try.isAgg158⟩
instance : ZeroT Try.prog 158 (Go.Value.agg #[Go.Value.int Go.IntKind.i64 0, Go.Value.bool false]) := ⟨Try.zeroValue158⟩
instance : FieldT Try.prog 158 0 0 := ⟨fun a w => by simp [Instr.fieldAt, Instr.sureAddr, Try.runUnderlying158, fieldPlace]⟩
instance : FieldT Try.prog 158 1 1 := ⟨fun a w => by simp [Instr.fieldAt, Instr.sureAddr, Try.runUnderlying158, fieldPlace]⟩
instance : SizeT Try.prog 159 1 := ⟨Try.sizeOf159⟩
instance : AggT Try.prog 159 false := ⟨Try.isAgg159⟩
instance : ZeroT Try.prog 159 (Go.Value.slice none 0 0) := ⟨Try.zeroValue159⟩
instance : UndT Try.prog 159 (Go.TypeDesc.slice 158) := ⟨Try.underlying159⟩
instance : SizeT Try.prog 160 1 := ⟨Try.sizeOf160⟩
instance : AggT Try.prog 160 false := ⟨Try.isAgg160⟩
instance : ZeroT Try.prog 160 (Go.Value.nilFunc) := ⟨Try.zeroValue160⟩
instance : SizeT Try.prog 161 1 := ⟨Try.sizeOf161⟩
instance : AggT Try.prog 161 false := ⟨Try.isAgg161⟩
instance : ZeroT Try.prog 161 (Go.Value.nilFunc) := ⟨Try.zeroValue161⟩
instance : SizeT Try.prog 162 1 := ⟨Try.sizeOf162⟩
instance : AggT Try.prog 162 false := ⟨Try.isAgg162⟩
instance : ZeroT Try.prog 162 (Go.Value.nilFunc) := ⟨Try.zeroValue162⟩
instance : SizeT Try.prog 163 1 := ⟨Try.sizeOf163⟩
instance : AggT Try.prog 163 false := ⟨Try.isAgg163⟩
instance : ZeroT Try.prog 163 (Go.Value.nilFunc) := ⟨Try.zeroValue163⟩
instance : SizeT Try.prog 164 1 := ⟨Try.sizeOf164⟩
instance : AggT Try.prog 164 false := ⟨Try.isAgg164⟩
instance : ZeroT Try.prog 164 (Go.Value.nilFunc) := ⟨Try.zeroValue164⟩
instance : SizeT Try.prog 165 1 := ⟨Try.sizeOf165⟩
instance : AggT Try.prog 165 false := ⟨Try.isAgg165⟩
instance : ZeroT Try.prog 165 (Go.Value.nilFunc) := ⟨Try.zeroValue165⟩
instance : SizeT Try.prog 166 1 := ⟨Try.sizeOf166⟩
instance : AggT Try.prog 166 false := ⟨Try.isAgg166⟩
instance : ZeroT Try.prog 166 (Go.Value.nilFunc) := ⟨Try.zeroValue166⟩
instance : SizeT Try.prog 167 1 := ⟨Try.sizeOf167⟩
instance : AggT Try.prog 167 false := ⟨Try.isAgg167⟩
instance : ZeroT Try.prog 167 (Go.Value.nilFunc) := ⟨Try.zeroValue167⟩
instance : SizeT Try.prog 168 1 := ⟨Try.sizeOf168⟩
instance : AggT Try.prog 168 false := ⟨Try.isAgg168⟩
instance : ZeroT Try.prog 168 (Go.Value.nilFunc) := ⟨Try.zeroValue168⟩
instance : SizeT Try.prog 169 1 := ⟨Try.sizeOf169⟩
instance : AggT Try.prog 169 false := ⟨Try.isAgg169⟩
instance : ZeroT Try.prog 169 (Go.Value.nilFunc) := ⟨Try.zeroValue169⟩
instance : SizeT Try.prog 170 1 := ⟨Try.sizeOf170⟩
instance : AggT Try.prog 170 false := ⟨Try.isAgg170⟩
instance : ZeroT Try.prog 170 (Go.Value.nilFunc) := ⟨Try.zeroValue170⟩
instance : SizeT Try.prog 171 1 := ⟨Try.sizeOf171⟩
instance : AggT Try.prog 171 false := ⟨Try.isAgg171⟩
instance : ZeroT Try.prog 171 (Go.Value.nilFunc) := ⟨Try.zeroValue171⟩
instance : SizeT Try.prog 172 1 := ⟨Try.sizeOf172⟩
instance : AggT Try.prog 172 false := ⟨Try.isAgg172⟩
instance : ZeroT Try.prog 172 (Go.Value.nilFunc) := ⟨Try.zeroValue172⟩
instance : SizeT Try.prog 173 1 := ⟨Try.sizeOf173⟩
instance : AggT Try.prog 173 false := ⟨Try.isAgg173⟩
instance : ZeroT Try.prog 173 (Go.Value.nilFunc) := ⟨Try.zeroValue173⟩
instance : SizeT Try.prog 174 1 := ⟨Try.sizeOf174⟩
instance : AggT Try.prog 174 false := ⟨Try.isAgg174⟩
instance : ZeroT Try.prog 174 (Go.Value.nilFunc) := ⟨Try.zeroValue174⟩
instance : SizeT Try.prog 175 1 := ⟨Try.sizeOf175⟩
instance : AggT Try.prog 175 false := ⟨Try.isAgg175⟩
instance : ZeroT Try.prog 175 (Go.Value.nilFunc) := ⟨Try.zeroValue175⟩
instance : SizeT Try.prog 176 1 := ⟨Try.sizeOf176⟩
instance : AggT Try.prog 176 false := ⟨Try.isAgg176⟩
instance : ZeroT Try.prog 176 (Go.Value.nilFunc) := ⟨Try.zeroValue176⟩
instance : SizeT Try.prog 177 1 := ⟨Try.sizeOf177⟩
instance : AggT Try.prog 177 false := ⟨Try.isAgg177⟩
instance : ZeroT Try.prog 177 (Go.Value.nilFunc) := ⟨Try.zeroValue177⟩
instance : SizeT Try.prog 178 1 := ⟨Try.sizeOf178⟩
instance : AggT Try.prog 178 false := ⟨Try.isAgg178⟩
instance : ZeroT Try.prog 178 (Go.Value.nilFunc) := ⟨Try.zeroValue178⟩
instance : SizeT Try.prog 179 1 := ⟨Try.sizeOf179⟩
instance : AggT Try.prog 179 false := ⟨Try.isAgg179⟩
instance : ZeroT Try.prog 179 (Go.Value.slice none 0 0) := ⟨Try.zeroValue179⟩
instance : UndT Try.prog 179 (Go.TypeDesc.slice 28) := ⟨Try.underlying179⟩
instance : SizeT Try.prog 180 1 := ⟨Try.sizeOf180⟩
instance : AggT Try.prog 180 false := ⟨Try.isAgg180⟩
instance : ZeroT Try.prog 180 (Go.Value.nilFunc) := ⟨Try.zeroValue180⟩
instance : SizeT Try.prog 181 1 := ⟨Try.sizeOf181⟩
instance : AggT Try.prog 181 false := ⟨Try.isAgg181⟩
instance : ZeroT Try.prog 181 (Go.Value.nilFunc) := ⟨Try.zeroValue181⟩
instance : SizeT Try.prog 182 1 := ⟨Try.sizeOf182⟩
instance : AggT Try.prog 182 false := ⟨Try.isAgg182⟩
instance : ZeroT Try.prog 182 (Go.Value.slice none 0 0) := ⟨Try.zeroValue182⟩
instance : UndT Try.prog 182 (Go.TypeDesc.slice 159) := ⟨Try.underlying182⟩
instance : SizeT Try.prog 183 1 := ⟨Try.sizeOf183⟩
instance : AggT Try.prog 183 false := ⟨Try.isAgg183⟩
instance : ZeroT Try.prog 183 (Go.Value.nilFunc) := ⟨Try.zeroValue183⟩
instance : SizeT Try.prog 184 1 := ⟨Try.sizeOf184⟩
instance : AggT Try.prog 184 false := ⟨Try.isAgg184⟩
instance : ZeroT Try.prog 184 (Go.Value.nilFunc) := ⟨Try.zeroValue184⟩
instance : SizeT Try.prog 185 6 := ⟨Try.sizeOf185⟩
instance : AggT Try.prog 185 true := ⟨Try.isAgg185⟩
instance : ZeroT Try.prog 185 (Go.Value.agg #[Go.Value.int Go.IntKind.i64 0, Go.Value.bool false, Go.Value.int Go.IntKind.i64 0, Go.Value.bool false, Go.Value.int Go.IntKind.i64 0, Go.Value.bool false]) := ⟨Try.zeroValue185⟩
instance : UndT Try.prog 185 (Go.TypeDesc.array 3 158) := ⟨Try.underlying185⟩
instance : SizeT Try.prog 186 1 := ⟨Try.sizeOf186⟩
instance : AggT Try.prog 186 false := ⟨Try.isAgg186⟩
instance : ZeroT Try.prog 186 (Go.Value.nilFunc) := ⟨Try.zeroValue186⟩
instance : SizeT Try.prog 187 1 := ⟨Try.sizeOf187⟩
instance : AggT Try.prog 187 false := ⟨Try.isAgg187⟩
instance : ZeroT Try.prog 187 (Go.Value.nilFunc) := ⟨Try.zeroValue187⟩
instance : SizeT Try.prog 188 1 := ⟨Try.sizeOf188⟩
instance : AggT Try.prog 188 false := ⟨Try.isAgg188⟩
instance : ZeroT Try.prog 188 (Go.Value.nilFunc) := ⟨Try.zeroValue188⟩
instance : SizeT Try.prog 189 1 := ⟨Try.sizeOf189⟩
instance : AggT Try.prog 189 false := ⟨Try.isAgg189⟩
instance : ZeroT Try.prog 189 (Go.Value.nilFunc) := ⟨Try.zeroValue189⟩
instance : SizeT Try.prog 190 1 := ⟨Try.sizeOf190⟩
instance : AggT Try.prog 190 false := ⟨Try.isAgg190⟩
instance : ZeroT Try.prog 190 (Go.Value.nilFunc) := ⟨Try.zeroValue190⟩
instance : SizeT Try.prog 191 1 := ⟨Try.sizeOf191⟩
instance : AggT Try.prog 191 false := ⟨Try.isAgg191⟩
instance : ZeroT Try.prog 191 (Go.Value.nilFunc) := ⟨Try.zeroValue191⟩
instance : SizeT Try.prog 192 1 := ⟨Try.sizeOf192⟩
instance : AggT Try.prog 192 false := ⟨Try.isAgg192⟩
instance : ZeroT Try.prog 192 (Go.Value.nilFunc) := ⟨Try.zeroValue192⟩
instance : SizeT Try.prog 193 2 := ⟨Try.sizeOf193⟩
instance : AggT Try.prog 193 true := ⟨Try.isAgg193⟩
instance : ZeroT Try.prog 193 (Go.Value.agg #[Go.Value.int Go.IntKind.i64 0, Go.Value.int Go.IntKind.i64 0]) := ⟨Try.zeroValue193⟩
instance : FieldT Try.prog 193 0 0 := ⟨fun a w => by simp [Instr.fieldAt, Instr.sureAddr, Try.runUnderlying193, fieldPlace]⟩
instance : FieldT Try.prog 193 1 1 := ⟨fun a w => by simp [Instr.fieldAt, Instr.sureAddr, Try.runUnderlying193, fieldPlace]⟩
instance : SizeT Try.prog 194 1 := ⟨Try.sizeOf194⟩
instance : AggT Try.prog 194 false := ⟨Try.isAgg194⟩
instance : ZeroT Try.prog 194 (Go.Value.nilFunc) := ⟨Try.zeroValue194⟩
instance : SizeT Try.prog 195 1 := ⟨Try.sizeOf195⟩
instance : AggT Try.prog 195 false := ⟨Try.isAgg195⟩
instance : ZeroT Try.prog 195 (Go.Value.nilFunc) := ⟨Try.zeroValue195⟩
instance : SizeT Try.prog 196 1 := ⟨Try.sizeOf196⟩
instance : AggT Try.prog 196 false := ⟨Try.isAgg196⟩
instance : ZeroT Try.prog 196 (Go.Value.nilFunc) := ⟨Try.zeroValue196⟩
instance : SizeT Try.prog 197 1 := ⟨Try.sizeOf197⟩
instance : AggT Try.prog 197 false := ⟨Try.isAgg197⟩
instance : ZeroT Try.prog 197 (Go.Value.nilFunc) := ⟨Try.zeroValue197⟩
instance : SizeT Try.prog 198 1 := ⟨Try.sizeOf198⟩
instance : AggT Try.prog 198 false := ⟨Try.isAgg198⟩
instance : ZeroT Try.prog 198 (Go.Value.nilFunc) := ⟨Try.zeroValue198⟩
instance : SizeT Try.prog 199 1 := ⟨Try.sizeOf199⟩
instance : AggT Try.prog 199 false := ⟨Try.isAgg199⟩
instance : ZeroT Try.prog 199 (Go.Value.nilFunc) := ⟨Try.zeroValue199⟩
instance : SizeT Try.prog 200 1 := ⟨Try.sizeOf200⟩
instance : AggT Try.prog 200 false := ⟨Try.isAgg200⟩
instance : ZeroT Try.prog 200 (Go.Value.nilFunc) := ⟨Try.zeroValue200⟩
instance : SizeT Try.prog 201 1 := ⟨Try.sizeOf201⟩
instance : AggT Try.prog 201 false := ⟨Try.isAgg201⟩
instance : ZeroT Try.prog 201 (Go.Value.slice none 0 0) := ⟨Try.zeroValue201⟩
instance : UndT Try.prog 201 (Go.TypeDesc.slice 207) := ⟨Try.underlying201⟩
instance : SizeT Try.prog 202 1 := ⟨Try.sizeOf202⟩
instance : AggT Try.prog 202 false := ⟨Try.isAgg202⟩
instance : ZeroT Try.prog 202 (Go.Value.tuple #[Go.Value.int Go.IntKind.i64 0, Go.Value.bool false]) := ⟨Try.zeroValue202⟩
instance : SizeT Try.prog 203 1 := ⟨Try.sizeOf203⟩
instance : AggT Try.prog 203 false := ⟨Try.isAgg203⟩
instance : ZeroT Try.prog 203 (Go.Value.nilFunc) := ⟨Try.zeroValue203⟩
instance : SizeT Try.prog 204 2 := ⟨Try.sizeOf204⟩
instance : AggT Try.prog 204 true := ⟨Try.isAgg204⟩
instance : ZeroT Try.prog 204 (Go.Value.agg #[Go.Value.int Go.IntKind.i64 0, Go.Value.int Go.IntKind.i64 0]) := ⟨Try.zeroValue204⟩
instance : FieldT Try.prog 204 0 0 := ⟨fun a w => by simp [Instr.fieldAt, Instr.sureAddr, Try.runUnderlying204, fieldPlace]⟩
instance : SizeT Try.prog 205 2 := ⟨Try.sizeOf205⟩
instance : AggT Try.prog 205 true := ⟨Try.isAgg205⟩
instance : ZeroT Try.prog 205 (Go.Value.agg #[Go.Value.int Go.IntKind.i64 0, Go.Value.int Go.IntKind.i64 0]) := ⟨Try.zeroValue205⟩
instance : FieldT Try.prog 205 0 0 := ⟨fun a w => by simp [Instr.fieldAt, Instr.sureAddr, Try.runUnderlying205, fieldPlace]⟩
instance : SizeT Try.prog 206 3 := ⟨Try.sizeOf206⟩
instance : AggT Try.prog 206 true := ⟨Try.isAgg206⟩
instance : ZeroT Try.prog 206 (Go.Value.agg #[Go.Value.int Go.IntKind.i64 0, Go.Value.int Go.IntKind.i64 0, Go.Value.int Go.IntKind.i64 0]) := ⟨Try.zeroValue206⟩
instance : FieldT Try.prog 206 0 0 := ⟨fun a w => by simp [Instr.fieldAt, Instr.sureAddr, Try.runUnderlying206, fieldPlace]⟩
instance : FieldT Try.prog 206 1 2 := ⟨fun a w => by simp [Instr.fieldAt, Instr.sureAddr, Try.runUnderlying206, fieldPlace]⟩
instance : SizeT Try.prog 207 3 := ⟨Try.sizeOf207⟩
instance : AggT Try.prog 207 true := ⟨Try.isAgg207⟩
instance : ZeroT Try.prog 207 (Go.Value.agg #[Go.Value.int Go.IntKind.i64 0, Go.Value.int Go.IntKind.i64 0, Go.Value.int Go.IntKind.i64 0]) := ⟨Try.zeroValue207⟩
instance : FieldT Try.prog 207 0 0 := ⟨fun a w => by simp [Instr.fieldAt, Instr.sureAddr, Try.runUnderlying207, fieldPlace]⟩
instance : FieldT Try.prog 207 1 2 := ⟨fun a w => by simp [Instr.fieldAt, Instr.sureAddr, Try.runUnderlying207, fieldPlace]⟩
instance : SizeT Try.prog 208 1 := ⟨Try.sizeOf208⟩
instance : AggT Try.prog 208 false := ⟨Try.isAgg208⟩
instance : ZeroT Try.prog 208 (Go.Value.nilFunc) := ⟨Try.zeroValue208⟩
instance : SizeT Try.prog 209 1 := ⟨Try.sizeOf209⟩
instance : AggT Try.prog 209 false := ⟨Try.isAgg209⟩
instance : ZeroT Try.prog 209 (Go.Value.nilFunc) := ⟨Try.zeroValue209⟩
instance : SizeT Try.prog 210 1 := ⟨Try.sizeOf210⟩
instance : AggT Try.prog 210 false := ⟨Try.isAgg210⟩
instance : ZeroT Try.prog 210 (Go.Value.nilFunc) := ⟨Try.zeroValue210⟩
instance : SizeT Try.prog 211 1 := ⟨Try.sizeOf211⟩
instance : AggT Try.prog 211 false := ⟨Try.isAgg211⟩
instance : ZeroT Try.prog 211 (Go.Value.nilFunc) := ⟨Try.zeroValue211⟩
instance : SizeT Try.prog 212 1 := ⟨Try.sizeOf212⟩
instance : AggT Try.prog 212 false := ⟨Try.isAgg212⟩
instance : ZeroT Try.prog 212 (Go.Value.nilFunc) := ⟨Try.zeroValue212⟩
instance : SizeT Try.prog 213 1 := ⟨Try.sizeOf213⟩
instance : AggT Try.prog 213 false := ⟨Try.isAgg213⟩
instance : ZeroT Try.prog 213 (Go.Value.nilFunc) := ⟨Try.zeroValue213⟩
instance : SizeT Try.prog 214 1 := ⟨Try.sizeOf214⟩
instance : AggT Try.prog 214 false := ⟨Try.isAgg214⟩
instance : ZeroT Try.prog 214 (Go.Value.nilFunc) := ⟨Try.zeroValue214⟩
instance : SizeT Try.prog 215 3 := ⟨Try.sizeOf215⟩
instance : AggT Try.prog 215 true := ⟨Try.isAgg215⟩
instance : ZeroT Try.prog 215 (Go.Value.agg #[Go.Value.int Go.IntKind.i64 0, Go.Value.int Go.IntKind.i64 0, Go.Value.slice none 0 0]) := ⟨Try.zeroValue215⟩
instance : FieldT Try.prog 215 0 0 := ⟨fun a w => by simp [Instr.fieldAt, Instr.sureAddr, Try.runUnderlying215, fieldPlace]⟩
instance : FieldT Try.prog 215 1 2 := ⟨fun a w => by simp [Instr.fieldAt, Instr.sureAddr, Try.runUnderlying215, fieldPlace]⟩
instance : SizeT Try.prog 216 3 := ⟨Try.sizeOf216⟩
instance : AggT Try.prog 216 true := ⟨Try.isAgg216⟩
instance : ZeroT Try.prog 216 (Go.Value.agg #[Go.Value.int Go.IntKind.i64 0, Go.Value.int Go.IntKind.i64 0, Go.Value.slice none 0 0]) := ⟨Try.zeroValue216⟩
instance : FieldT Try.prog 216 0 0 := ⟨fun a w => by simp [Instr.fieldAt, Instr.sureAddr, Try.runUnderlying216, fieldPlace]⟩
instance : FieldT Try.prog 216 1 2 := ⟨fun a w => by simp [Instr.fieldAt, Instr.sureAddr, Try.runUnderlying216, fieldPlace]⟩
instance : SizeT Try.prog 217 1 := ⟨Try.sizeOf217⟩
instance : AggT Try.prog 217 false := ⟨Try.isAgg217⟩
instance : ZeroT Try.prog 217 (Go.Value.nilFunc) := ⟨Try.zeroValue217⟩
instance : SizeT Try.prog 218 1 := ⟨Try.sizeOf218⟩
instance : AggT Try.prog 218 false := ⟨Try.isAgg218⟩
instance : ZeroT Try.prog 218 (Go.Value.nilFunc) := ⟨Try.zeroValue218⟩
instance : SizeT Try.prog 219 1 := ⟨Try.sizeOf219⟩
instance : AggT Try.prog 219 false := ⟨Try.isAgg219⟩
instance : ZeroT Try.prog 219 (Go.Value.nilFunc) := ⟨Try.zeroValue219⟩
instance : SizeT Try.prog 220 1 := ⟨Try.sizeOf220⟩
instance : AggT Try.prog 220 false := ⟨Try.isAgg220⟩
instance : ZeroT Try.prog 220 (Go.Value.nilFunc) := ⟨Try.zeroValue220⟩
instance : SizeT Try.prog 221 1 := ⟨Try.sizeOf221⟩
instance : AggT Try.prog 221 false := ⟨Try.isAgg221⟩
instance : ZeroT Try.prog 221 (Go.Value.nilFunc) := ⟨Try.zeroValue221⟩
instance : SizeT Try.prog 222 1 := ⟨Try.sizeOf222⟩
instance : AggT Try.prog 222 false := ⟨Try.isAgg222⟩
instance : ZeroT Try.prog 222 (Go.Value.nilFunc) := ⟨Try.zeroValue222⟩
instance : SizeT Try.prog 223 1 := ⟨Try.sizeOf223⟩
instance : AggT Try.prog 223 false := ⟨Try.isAgg223⟩
instance : ZeroT Try.prog 223 (Go.Value.nilFunc) := ⟨Try.zeroValue223⟩
instance : SizeT Try.prog 224 1 := ⟨Try.sizeOf224⟩
instance : AggT Try.prog 224 false := ⟨Try.isAgg224⟩
instance : ZeroT Try.prog 224 (Go.Value.int Go.IntKind.u64 0) := ⟨Try.zeroValue224⟩
instance : UndT Try.prog 224 (Go.TypeDesc.int Go.IntKind.u64) := ⟨Try.underlying224⟩
instance : SizeT Try.prog 225 1 := ⟨Try.sizeOf225⟩
instance : AggT Try.prog 225 false := ⟨Try.isAgg225⟩
instance : ZeroT Try.prog 225 (Go.Value.int Go.IntKind.u32 0) := ⟨Try.zeroValue225⟩
instance : UndT Try.prog 225 (Go.TypeDesc.int Go.IntKind.u32) := ⟨Try.underlying225⟩
instance : SizeT Try.prog 226 1 := ⟨Try.sizeOf226⟩
instance : AggT Try.prog 226 false := ⟨Try.isAgg226⟩
instance : ZeroT Try.prog 226 (Go.Value.nilFunc) := ⟨Try.zeroValue226⟩
instance : SizeT Try.prog 227 1 := ⟨Try.sizeOf227⟩
instance : AggT Try.prog 227 false := ⟨Try.isAgg227⟩
instance : ZeroT Try.prog 227 (Go.Value.nilFunc) := ⟨Try.zeroValue227⟩
instance : SizeT Try.prog 228 1 := ⟨Try.sizeOf228⟩
instance : AggT Try.prog 228 false := ⟨Try.isAgg228⟩
instance : ZeroT Try.prog 228 (Go.Value.nilFunc) := ⟨Try.zeroValue228⟩
instance : SizeT Try.prog 229 1 := ⟨Try.sizeOf229⟩
instance : AggT Try.prog 229 false := ⟨Try.isAgg229⟩
instance : ZeroT Try.prog 229 (Go.Value.tuple #[Go.Value.agg #[Go.Value.int Go.IntKind.i64 0, Go.Value.int Go.IntKind.i64 0, Go.Value.float Go.FloatKind.f32 0, Go.Value.float Go.FloatKind.f32 0, Go.Value.float Go.FloatKind.f32 0], Go.Value.int Go.IntKind.i64 0]) := ⟨Try.zeroValue229⟩
instance : SizeT Try.prog 230 1 := ⟨Try.sizeOf230⟩
instance : AggT Try.prog 230 false := ⟨Try.isAgg230⟩
instance : ZeroT Try.prog 230 (Go.Value.nilFunc) := ⟨Try.zeroValue230⟩
instance : SizeT Try.prog 231 1 := ⟨Try.sizeOf231⟩
instance : AggT Try.prog 231 false := ⟨Try.isAgg231⟩
instance : ZeroT Try.prog 231 (Go.Value.nilFunc) := ⟨Try.zeroValue231⟩
instance : SizeT Try.prog 232 1 := ⟨Try.sizeOf232⟩
instance : AggT Try.prog 232 false := ⟨Try.isAgg232⟩
instance : ZeroT Try.prog 232 (Go.Value.nilFunc) := ⟨Try.zeroValue232⟩
instance : SizeT Try.prog 233 1 := ⟨Try.sizeOf233⟩
instance : AggT Try.prog 233 false := ⟨Try.isAgg233⟩
instance : ZeroT Try.prog 233 (Go.Value.nilFunc) := ⟨Try.zeroValue233⟩
instance : SizeT Try.prog 234 1 := ⟨Try.sizeOf234⟩
instance : AggT Try.prog 234 false := ⟨Try.isAgg234⟩
instance : ZeroT Try.prog 234 (Go.Value.nilFunc) := ⟨Try.zeroValue234⟩
instance : SizeT Try.prog 235 1 := ⟨Try.sizeOf235⟩
instance : AggT Try.prog 235 false := ⟨Try.isAgg235⟩
instance : ZeroT Try.prog 235 (Go.Value.nilFunc) := ⟨Try.zeroValue235⟩
instance : SizeT Try.prog 236 1 := ⟨Try.sizeOf236⟩
instance : AggT Try.prog 236 false := ⟨Try.isAgg236⟩
instance : ZeroT Try.prog 236 (Go.Value.nilFunc) := ⟨Try.zeroValue236⟩
instance : SizeT Try.prog 237 1 := ⟨Try.sizeOf237⟩
instance : AggT Try.prog 237 false := ⟨Try.isAgg237⟩
instance : ZeroT Try.prog 237 (Go.Value.nilFunc) := ⟨Try.zeroValue237⟩
instance : SizeT Try.prog 238 1 := ⟨Try.sizeOf238⟩
instance : AggT Try.prog 238 false := ⟨Try.isAgg238⟩
instance : ZeroT Try.prog 238 (Go.Value.nilFunc) := ⟨Try.zeroValue238⟩
instance : SizeT Try.prog 239 1 := ⟨Try.sizeOf239⟩
instance : AggT Try.prog 239 false := ⟨Try.isAgg239⟩
instance : ZeroT Try.prog 239 (Go.Value.map none) := ⟨Try.zeroValue239⟩
instance : UndT Try.prog 239 (Go.TypeDesc.map 3 4) := ⟨Try.underlying239⟩
instance : SizeT Try.prog 240 1 := ⟨Try.sizeOf240⟩
instance : AggT Try.prog 240 false := ⟨Try.isAgg240⟩
instance : ZeroT Try.prog 240 (Go.Value.nilFunc) := ⟨Try.zeroValue240⟩
instance : SizeT Try.prog 241 1 := ⟨Try.sizeOf241⟩
instance : AggT Try.prog 241 false := ⟨Try.isAgg241⟩
instance : ZeroT Try.prog 241 (Go.Value.nilFunc) := ⟨Try.zeroValue241⟩
instance : SizeT Try.prog 242 1 := ⟨Try.sizeOf242⟩
instance : AggT Try.prog 242 false := ⟨Try.isAgg242⟩
instance : ZeroT Try.prog 242 (Go.Value.nilFunc) := ⟨Try.zeroValue242⟩
instance : SizeT Try.prog 243 1 := ⟨Try.sizeOf243⟩
instance : AggT Try.prog 243 false := ⟨Try.isAgg243⟩
instance : ZeroT Try.prog 243 (Go.Value.nilFunc) := ⟨Try.zeroValue243⟩
instance : SizeT Try.prog 244 1 := ⟨Try.sizeOf244⟩
instance : AggT Try.prog 244 false := ⟨Try.isAgg244⟩
instance : ZeroT Try.prog 244 (Go.Value.map none) := ⟨Try.zeroValue244⟩
instance : UndT Try.prog 244 (Go.TypeDesc.map 9 4) := ⟨Try.underlying244⟩
instance : SizeT Try.prog 245 1 := ⟨Try.sizeOf245⟩
instance : AggT Try.prog 245 false := ⟨Try.isAgg245⟩
instance : ZeroT Try.prog 245 (Go.Value.nilFunc) := ⟨Try.zeroValue245⟩
instance : SizeT Try.prog 246 1 := ⟨Try.sizeOf246⟩
instance : AggT Try.prog 246 false := ⟨Try.isAgg246⟩
instance : ZeroT Try.prog 246 (Go.Value.nilFunc) := ⟨Try.zeroValue246⟩
instance : SizeT Try.prog 247 1 := ⟨Try.sizeOf247⟩
instance : AggT Try.prog 247 false := ⟨Try.isAgg247⟩
instance : ZeroT Try.prog 247 (Go.Value.nilFunc) := ⟨Try.zeroValue247⟩
instance : SizeT Try.prog 248 2 := ⟨Try.sizeOf248⟩
instance : AggT Try.prog 248 true := ⟨Try.isAgg248⟩
instance : ZeroT Try.prog 248 (Go.Value.agg #[Go.Value.nilFunc, Go.Value.nilFunc]) := ⟨Try.zeroValue248⟩
instance : FieldT Try.prog 248 0 0 := ⟨fun a w => by simp [Instr.fieldAt, Instr.sureAddr, Try.runUnderlying248, fieldPlace]⟩
instance : FieldT Try.prog 248 1 1 := ⟨fun a w => by simp [Instr.fieldAt, Instr.sureAddr, Try.runUnderlying248, fieldPlace]⟩
instance : SizeT Try.prog 249 2 := ⟨Try.sizeOf249⟩
instance : AggT Try.prog 249 true := ⟨Try.isAgg249⟩
instance : ZeroT Try.prog 249 (Go.Value.agg #[Go.Value.nilFunc, Go.Value.nilFunc]) := ⟨Try.zeroValue249⟩
instance : FieldT Try.prog 249 0 0 := ⟨fun a w => by simp [Instr.fieldAt, Instr.sureAddr, Try.runUnderlying249, fieldPlace]⟩
instance : FieldT Try.prog 249 1 1 := ⟨fun a w => by simp [Instr.fieldAt, Instr.sureAddr, Try.runUnderlying249, fieldPlace]⟩
instance : SizeT Try.prog 250 8 := ⟨Try.sizeOf250⟩
instance : AggT Try.prog 250 true := ⟨Try.isAgg250⟩
instance : ZeroT Try.prog 250 (Go.Value.agg #[Go.Value.nilFunc, Go.Value.nilFunc, Go.Value.nilFunc, Go.Value.nilFunc, Go.Value.nilFunc, Go.Value.nilFunc, Go.Value.nilFunc, Go.Value.nilFunc]) := ⟨Try.zeroValue250⟩
instance : UndT Try.prog 250 (Go.TypeDesc.array 4 249) := ⟨Try.underlying250⟩
instance : SizeT Try.prog 251 1 := ⟨Try.sizeOf251⟩
instance : AggT Try.prog 251 false := ⟨Try.isAgg251⟩
instance : ZeroT Try.prog 251 (Go.Value.nilFunc) := ⟨Try.zeroValue251⟩
instance : SizeT Try.prog 252 1 := ⟨Try.sizeOf252⟩
instance : AggT Try.prog 252 false := ⟨Try.isAgg252⟩
instance : ZeroT Try.prog 252 (Go.Value.nilFunc) := ⟨Try.zeroValue252⟩
instance : SizeT Try.prog 253 1 := ⟨Try.sizeOf253⟩
instance : AggT Try.prog 253 false := ⟨Try.isAgg253⟩
instance : ZeroT Try.prog 253 (Go.Value.nilFunc) := ⟨Try.zeroValue253⟩
instance : SizeT Try.prog 254 1 := ⟨Try.sizeOf254⟩
instance : AggT Try.prog 254 false := ⟨Try.isAgg254⟩
instance : ZeroT Try.prog 254 (Go.Value.nilFunc) := ⟨Try.zeroValue254⟩
instance : SizeT Try.prog 255 1 := ⟨Try.sizeOf255⟩
instance : AggT Try.prog 255 false := ⟨Try.isAgg255⟩
instance : ZeroT Try.prog 255 (Go.Value.nilFunc) := ⟨Try.zeroValue255⟩
instance : SizeT Try.prog 256 1 := ⟨Try.sizeOf256⟩
instance : AggT Try.prog 256 false := ⟨Try.isAgg256⟩
instance : ZeroT Try.prog 256 (Go.Value.nilFunc) := ⟨Try.zeroValue256⟩
instance : SizeT Try.prog 257 3 := ⟨Try.sizeOf257⟩
instance : AggT Try.prog 257 true := ⟨Try.isAgg257⟩
instance : ZeroT Try.prog 257 (Go.Value.agg #[Go.Value.int Go.IntKind.i64 0, Go.Value.int Go.IntKind.i64 0, Go.Value.int Go.IntKind.i64 0]) := ⟨Try.zeroValue257⟩
instance : FieldT Try.prog 257 0 0 := ⟨fun a w => by simp [Instr.fieldAt, Instr.sureAddr, Try.runUnderlying257, fieldPlace]⟩
instance : FieldT Try.prog 257 1 1 := ⟨fun a w => by simp [Instr.fieldAt, Instr.sureAddr, Try.runUnderlying257, fieldPlace]⟩
instance : FieldT Try.prog 257 2 2 := ⟨fun a w => by simp [Instr.fieldAt, Instr.sureAddr, Try.runUnderlying257, fieldPlace]⟩
instance : SizeT Try.prog 258 3 := ⟨Try.sizeOf258⟩
instance : AggT Try.prog 258 true := ⟨Try.isAgg258⟩
instance : ZeroT Try.prog 258 (Go.Value.agg #[Go.Value.int Go.IntKind.i64 0, Go.Value.int Go.IntKind.i64 0, Go.Value.int Go.IntKind.i64 0]) := ⟨Try.zeroValue258⟩
instance : FieldT Try.prog 258 0 0 := ⟨fun a w => by simp [Instr.fieldAt, Instr.sureAddr, Try.runUnderlying258, fieldPlace]⟩
instance : FieldT Try.prog 258 1 1 := ⟨fun a w => by simp [Instr.fieldAt, Instr.sureAddr, Try.runUnderlying258, fieldPlace]⟩
instance : FieldT Try.prog 258 2 2 := ⟨fun a w => by simp [Instr.fieldAt, Instr.sureAddr, Try.runUnderlying258, fieldPlace]⟩
instance : SizeT Try.prog 259 1 := ⟨Try.sizeOf259⟩
instance : AggT Try.prog 259 false := ⟨Try.isAgg259⟩
instance : ZeroT Try.prog 259 (Go.Value.nilFunc) := ⟨Try.zeroValue259⟩
instance : SizeT Try.prog 260 1 := ⟨Try.sizeOf260⟩
instance : AggT Try.prog 260 false := ⟨Try.isAgg260⟩
instance : ZeroT Try.prog 260 (Go.Value.nilFunc) := ⟨Try.zeroValue260⟩
instance : SizeT Try.prog 261 1 := ⟨Try.sizeOf261⟩
instance : AggT Try.prog 261 false := ⟨Try.isAgg261⟩
instance : ZeroT Try.prog 261 (Go.Value.slice none 0 0) := ⟨Try.zeroValue261⟩
instance : UndT Try.prog 261 (Go.TypeDesc.slice 123) := ⟨Try.underlying261⟩
instance : SizeT Try.prog 262 1 := ⟨Try.sizeOf262⟩
instance : AggT Try.prog 262 false := ⟨Try.isAgg262⟩
instance : ZeroT Try.prog 262 (Go.Value.nilFunc) := ⟨Try.zeroValue262⟩
instance : SizeT Try.prog 263 1 := ⟨Try.sizeOf263⟩
instance : AggT Try.prog 263 false := ⟨Try.isAgg263⟩
instance : ZeroT Try.prog 263 (Go.Value.nilFunc) := ⟨Try.zeroValue263⟩
instance : SizeT Try.prog 264 1 := ⟨Try.sizeOf264⟩
instance : AggT Try.prog 264 false := ⟨Try.isAgg264⟩
instance : ZeroT Try.prog 264 (Go.Value.nilFunc) := ⟨Try.zeroValue264⟩
instance : SizeT Try.prog 265 1 := ⟨Try.sizeOf265⟩
instance : AggT Try.prog 265 false := ⟨Try.isAgg265⟩
instance : ZeroT Try.prog 265 (Go.Value.nilFunc) := ⟨Try.zeroValue265⟩
instance : SizeT Try.prog 266 1 := ⟨Try.sizeOf266⟩
instance : AggT Try.prog 266 false := ⟨Try.isAgg266⟩
instance : ZeroT Try.prog 266 (Go.Value.nilFunc) := ⟨Try.zeroValue266⟩
instance : SizeT Try.prog 267 1 := ⟨Try.sizeOf267⟩
instance : AggT Try.prog 267 false := ⟨Try.isAgg267⟩
instance : ZeroT Try.prog 267 (Go.Value.nilFunc) := ⟨Try.zeroValue267⟩
instance : SizeT Try.prog 268 1 := ⟨Try.sizeOf268⟩
instance : AggT Try.prog 268 false := ⟨Try.isAgg268⟩
instance : ZeroT Try.prog 268 (Go.Value.nilFunc) := ⟨Try.zeroValue268⟩
instance : SizeT Try.prog 269 1 := ⟨Try.sizeOf269⟩
instance : AggT Try.prog 269 false := ⟨Try.isAgg269⟩
instance : ZeroT Try.prog 269 (Go.Value.nilFunc) := ⟨Try.zeroValue269⟩
instance : SizeT Try.prog 270 1 := ⟨Try.sizeOf270⟩
instance : AggT Try.prog 270 false := ⟨Try.isAgg270⟩
instance : ZeroT Try.prog 270 (Go.Value.nilFunc) := ⟨Try.zeroValue270⟩
instance : SizeT Try.prog 271 1 := ⟨Try.sizeOf271⟩
instance : AggT Try.prog 271 false := ⟨Try.isAgg271⟩
instance : ZeroT Try.prog 271 (Go.Value.nilFunc) := ⟨Try.zeroValue271⟩
instance : SizeT Try.prog 272 1 := ⟨Try.sizeOf272⟩
instance : AggT Try.prog 272 false := ⟨Try.isAgg272⟩
instance : ZeroT Try.prog 272 (Go.Value.nilFunc) := ⟨Try.zeroValue272⟩
instance : SizeT Try.prog 273 1 := ⟨Try.sizeOf273⟩
instance : AggT Try.prog 273 false := ⟨Try.isAgg273⟩
instance : ZeroT Try.prog 273 (Go.Value.nilFunc) := ⟨Try.zeroValue273⟩
instance : SizeT Try.prog 274 4 := ⟨Try.sizeOf274⟩
instance : AggT Try.prog 274 true := ⟨Try.isAgg274⟩
instance : ZeroT Try.prog 274 (Go.Value.agg #[Go.Value.int Go.IntKind.u8 0, Go.Value.int Go.IntKind.u8 0, Go.Value.int Go.IntKind.u8 0, Go.Value.int Go.IntKind.u8 0]) := ⟨Try.zeroValue274⟩
instance : UndT Try.prog 274 (Go.TypeDesc.array 4 5) := ⟨Try.underlying274⟩
instance : SizeT Try.prog 275 1 := ⟨Try.sizeOf275⟩
instance : AggT Try.prog 275 false := ⟨Try.isAgg275⟩
instance : ZeroT Try.prog 275 (Go.Value.nilFunc) := ⟨Try.zeroValue275⟩
instance : SizeT Try.prog 276 1 := ⟨Try.sizeOf276⟩
instance : AggT Try.prog 276 false := ⟨Try.isAgg276⟩
instance : ZeroT Try.prog 276 (Go.Value.nilFunc) := ⟨Try.zeroValue276⟩
instance : SizeT Try.prog 277 1 := ⟨Try.sizeOf277⟩
instance : AggT Try.prog 277 false := ⟨Try.isAgg277⟩
instance : ZeroT Try.prog 277 (Go.Value.nilFunc) := ⟨Try.zeroValue277⟩
instance : SizeT Try.prog 278 1 := ⟨Try.sizeOf278⟩
instance : AggT Try.prog 278 false := ⟨Try.isAgg278⟩
instance : ZeroT Try.prog 278 (Go.Value.nilFunc) := ⟨Try.zeroValue278⟩
instance : SizeT Try.prog 279 1 := ⟨Try.sizeOf279⟩
instance : AggT Try.prog 279 false := ⟨Try.isAgg279⟩
instance : ZeroT Try.prog 279 (Go.Value.nilFunc) := ⟨Try.zeroValue279⟩
instance : SizeT Try.prog 280 1 := ⟨Try.sizeOf280⟩
instance : AggT Try.prog 280 false := ⟨Try.isAgg280⟩
instance : ZeroT Try.prog 280 (Go.Value.nilFunc) := ⟨Try.zeroValue280⟩
instance : SizeT Try.prog 281 1 := ⟨Try.sizeOf281⟩
instance : AggT Try.prog 281 false := ⟨Try.isAgg281⟩
instance : ZeroT Try.prog 281 (Go.Value.nilFunc) := ⟨Try.zeroValue281⟩
instance : SizeT Try.prog 282 1 := ⟨Try.sizeOf282⟩
instance : AggT Try.prog 282 false := ⟨Try.isAgg282⟩
instance : ZeroT Try.prog 282 (Go.Value.nilFunc) := ⟨Try.zeroValue282⟩
instance : SizeT Try.prog 283 1 := ⟨Try.sizeOf283⟩
instance : AggT Try.prog 283 false := ⟨Try.isAgg283⟩
instance : ZeroT Try.prog 283 (Go.Value.nilFunc) := ⟨Try.zeroValue283⟩
instance : SizeT Try.prog 284 1 := ⟨Try.sizeOf284⟩
instance : AggT Try.prog 284 false := ⟨Try.isAgg284⟩
instance : ZeroT Try.prog 284 (Go.Value.nilFunc) := ⟨Try.zeroValue284⟩
instance : SizeT Try.prog 285 1 := ⟨Try.sizeOf285⟩
instance : AggT Try.prog 285 false := ⟨Try.isAgg285⟩
instance : ZeroT Try.prog 285 (Go.Value.nilFunc) := ⟨Try.zeroValue285⟩
instance : SizeT Try.prog 286 1 := ⟨Try.sizeOf286⟩
instance : AggT Try.prog 286 false := ⟨Try.isAgg286⟩
instance : ZeroT Try.prog 286 (Go.Value.nilFunc) := ⟨Try.zeroValue286⟩
instance : SizeT Try.prog 287 1 := ⟨Try.sizeOf287⟩
instance : AggT Try.prog 287 false := ⟨Try.isAgg287⟩
instance : ZeroT Try.prog 287 (Go.Value.nilFunc) := ⟨Try.zeroValue287⟩
instance : SizeT Try.prog 288 1 := ⟨Try.sizeOf288⟩
instance : AggT Try.prog 288 false := ⟨Try.isAgg288⟩
instance : ZeroT Try.prog 288 (Go.Value.nilFunc) := ⟨Try.zeroValue288⟩
instance : SizeT Try.prog 289 1 := ⟨Try.sizeOf289⟩
instance : AggT Try.prog 289 false := ⟨Try.isAgg289⟩
instance : ZeroT Try.prog 289 (Go.Value.int Go.IntKind.i64 0) := ⟨Try.zeroValue289⟩
instance : UndT Try.prog 289 (Go.TypeDesc.int Go.IntKind.i64) := ⟨Try.underlying289⟩
instance : SizeT Try.prog 290 1 := ⟨Try.sizeOf290⟩
instance : AggT Try.prog 290 false := ⟨Try.isAgg290⟩
instance : ZeroT Try.prog 290 (Go.Value.tuple #[Go.Value.int Go.IntKind.i64 0, Go.Value.int Go.IntKind.i64 0]) := ⟨Try.zeroValue290⟩
instance : SizeT Try.prog 291 1 := ⟨Try.sizeOf291⟩
instance : AggT Try.prog 291 false := ⟨Try.isAgg291⟩
instance : ZeroT Try.prog 291 (Go.Value.nilFunc) := ⟨Try.zeroValue291⟩
instance : SizeT Try.prog 292 1 := ⟨Try.sizeOf292⟩
instance : AggT Try.prog 292 false := ⟨Try.isAgg292⟩
instance : ZeroT Try.prog 292 (Go.Value.nilFunc) := ⟨Try.zeroValue292⟩
instance : SizeT Try.prog 293 1 := ⟨Try.sizeOf293⟩
instance : AggT Try.prog 293 false := ⟨Try.isAgg293⟩
instance : ZeroT Try.prog 293 (Go.Value.nilFunc) := ⟨Try.zeroValue293⟩
instance : SizeT Try.prog 294 1 := ⟨Try.sizeOf294⟩
instance : AggT Try.prog 294 false := ⟨Try.isAgg294⟩
instance : ZeroT Try.prog 294 (Go.Value.nilFunc) := ⟨Try.zeroValue294⟩
instance : SizeT Try.prog 295 1 := ⟨Try.sizeOf295⟩
instance : AggT Try.prog 295 false := ⟨Try.isAgg295⟩
instance : ZeroT Try.prog 295 (Go.Value.nilFunc) := ⟨Try.zeroValue295⟩
instance : SizeT Try.prog 296 1 := ⟨Try.sizeOf296⟩
instance : AggT Try.prog 296 false := ⟨Try.isAgg296⟩
instance : ZeroT Try.prog 296 (Go.Value.nilFunc) := ⟨Try.zeroValue296⟩
instance : SizeT Try.prog 297 1 := ⟨Try.sizeOf297⟩
instance : AggT Try.prog 297 false := ⟨Try.isAgg297⟩
instance : ZeroT Try.prog 297 (Go.Value.int Go.IntKind.u64 0) := ⟨Try.zeroValue297⟩
instance : UndT Try.prog 297 (Go.TypeDesc.int Go.IntKind.u64) := ⟨Try.underlying297⟩
instance : SizeT Try.prog 298 1 := ⟨Try.sizeOf298⟩
instance : AggT Try.prog 298 false := ⟨Try.isAgg298⟩
instance : ZeroT Try.prog 298 (Go.Value.tuple #[Go.Value.int Go.IntKind.u64 0, Go.Value.int Go.IntKind.u64 0]) := ⟨Try.zeroValue298⟩
instance : SizeT Try.prog 299 1 := ⟨Try.sizeOf299⟩
instance : AggT Try.prog 299 false := ⟨Try.isAgg299⟩
instance : ZeroT Try.prog 299 (Go.Value.nilFunc) := ⟨Try.zeroValue299⟩
instance : SizeT Try.prog 300 1 := ⟨Try.sizeOf300⟩
instance : AggT Try.prog 300 false := ⟨Try.isAgg300⟩
instance : ZeroT Try.prog 300 (Go.Value.nilFunc) := ⟨Try.zeroValue300⟩
instance : SizeT Try.prog 301 1 := ⟨Try.sizeOf301⟩
instance : AggT Try.prog 301 false := ⟨Try.isAgg301⟩
instance : ZeroT Try.prog 301 (Go.Value.nilFunc) := ⟨Try.zeroValue301⟩
instance : SizeT Try.prog 302 1 := ⟨Try.sizeOf302⟩
instance : AggT Try.prog 302 false := ⟨Try.isAgg302⟩
instance : ZeroT Try.prog 302 (Go.Value.nilFunc) := ⟨Try.zeroValue302⟩
instance : SizeT Try.prog 303 1 := ⟨Try.sizeOf303⟩
instance : AggT Try.prog 303 false := ⟨Try.isAgg303⟩
instance : ZeroT Try.prog 303 (Go.Value.nilFunc) := ⟨Try.zeroValue303⟩
instance : SizeT Try.prog 304 1 := ⟨Try.sizeOf304⟩
instance : AggT Try.prog 304 false := ⟨Try.isAgg304⟩
instance : ZeroT Try.prog 304 (Go.Value.nilFunc) := ⟨Try.zeroValue304⟩
instance : SizeT Try.prog 305 1 := ⟨Try.sizeOf305⟩
instance : AggT Try.prog 305 false := ⟨Try.isAgg305⟩
instance : ZeroT Try.prog 305 (Go.Value.nilFunc) := ⟨Try.zeroValue305⟩
instance : SizeT Try.prog 306 1 := ⟨Try.sizeOf306⟩
instance : AggT Try.prog 306 false := ⟨Try.isAgg306⟩
instance : ZeroT Try.prog 306 (Go.Value.nilFunc) := ⟨Try.zeroValue306⟩
instance : SizeT Try.prog 307 1 := ⟨Try.sizeOf307⟩
instance : AggT Try.prog 307 false := ⟨Try.isAgg307⟩
instance : ZeroT Try.prog 307 (Go.Value.nilFunc) := ⟨Try.zeroValue307⟩
instance : SizeT Try.prog 308 1 := ⟨Try.sizeOf308⟩
instance : AggT Try.prog 308 false := ⟨Try.isAgg308⟩
instance : ZeroT Try.prog 308 (Go.Value.int Go.IntKind.u64 0) := ⟨Try.zeroValue308⟩
instance : UndT Try.prog 308 (Go.TypeDesc.int Go.IntKind.u64) := ⟨Try.underlying308⟩
instance : SizeT Try.prog 309 1 := ⟨Try.sizeOf309⟩
instance : AggT Try.prog 309 false := ⟨Try.isAgg309⟩
instance : ZeroT Try.prog 309 (Go.Value.nilFunc) := ⟨Try.zeroValue309⟩
instance : SizeT Try.prog 310 1 := ⟨Try.sizeOf310⟩
instance : AggT Try.prog 310 false := ⟨Try.isAgg310⟩
instance : ZeroT Try.prog 310 (Go.Value.nilFunc) := ⟨Try.zeroValue310⟩
instance : SizeT Try.prog 311 1 := ⟨Try.sizeOf311⟩
instance : AggT Try.prog 311 false := ⟨Try.isAgg311⟩
instance : ZeroT Try.prog 311 (Go.Value.nilFunc) := ⟨Try.zeroValue311⟩
instance : SizeT Try.prog 312 1 := ⟨Try.sizeOf312⟩
instance : AggT Try.prog 312 false := ⟨Try.isAgg312⟩
instance : ZeroT Try.prog 312 (Go.Value.pointer none) := ⟨Try.zeroValue312⟩
instance : UndT Try.prog 312 (Go.TypeDesc.pointer 3) := ⟨Try.underlying312⟩
instance : SizeT Try.prog 313 1 := ⟨Try.sizeOf313⟩
instance : AggT Try.prog 313 false := ⟨Try.isAgg313⟩
instance : ZeroT Try.prog 313 (Go.Value.nilFunc) := ⟨Try.zeroValue313⟩
instance : SizeT Try.prog 314 1 := ⟨Try.sizeOf314⟩
instance : AggT Try.prog 314 false := ⟨Try.isAgg314⟩
instance : ZeroT Try.prog 314 (Go.Value.tuple #[Go.Value.int Go.IntKind.u32 0, Go.Value.int Go.IntKind.u32 0]) := ⟨Try.zeroValue314⟩
instance : SizeT Try.prog 315 1 := ⟨Try.sizeOf315⟩
instance : AggT Try.prog 315 false := ⟨Try.isAgg315⟩
instance : ZeroT Try.prog 315 (Go.Value.nilFunc) := ⟨Try.zeroValue315⟩
instance : SizeT Try.prog 316 1 := ⟨Try.sizeOf316⟩
instance : AggT Try.prog 316 false := ⟨Try.isAgg316⟩
instance : ZeroT Try.prog 316 (Go.Value.tuple #[Go.Value.int Go.IntKind.u64 0, Go.Value.int Go.IntKind.u64 0]) := ⟨Try.zeroValue316⟩
instance : SizeT Try.prog 317 1 := ⟨Try.sizeOf317⟩
instance : AggT Try.prog 317 false := ⟨Try.isAgg317⟩
instance : ZeroT Try.prog 317 (Go.Value.nilFunc) := ⟨Try.zeroValue317⟩
instance : SizeT Try.prog 318 1 := ⟨Try.sizeOf318⟩
instance : AggT Try.prog 318 false := ⟨Try.isAgg318⟩
instance : ZeroT Try.prog 318 (Go.Value.nilFunc) := ⟨Try.zeroValue318⟩
instance : SizeT Try.prog 319 1 := ⟨Try.sizeOf319⟩
instance : AggT Try.prog 319 false := ⟨Try.isAgg319⟩
instance : ZeroT Try.prog 319 (Go.Value.nilFunc) := ⟨Try.zeroValue319⟩
instance : SizeT Try.prog 320 1 := ⟨Try.sizeOf320⟩
instance : AggT Try.prog 320 false := ⟨Try.isAgg320⟩
instance : ZeroT Try.prog 320 (Go.Value.pointer none) := ⟨Try.zeroValue320⟩
instance : UndT Try.prog 320 (Go.TypeDesc.pointer 308) := ⟨Try.underlying320⟩
instance : SizeT Try.prog 321 1 := ⟨Try.sizeOf321⟩
instance : AggT Try.prog 321 false := ⟨Try.isAgg321⟩
instance : ZeroT Try.prog 321 (Go.Value.tuple #[Go.Value.int Go.IntKind.i64 0, Go.Value.int Go.IntKind.i64 0]) := ⟨Try.zeroValue321⟩
instance : SizeT Try.prog 322 1 := ⟨Try.sizeOf322⟩
instance : AggT Try.prog 322 false := ⟨Try.isAgg322⟩
instance : ZeroT Try.prog 322 (Go.Value.nilFunc) := ⟨Try.zeroValue322⟩
instance : SizeT Try.prog 323 1 := ⟨Try.sizeOf323⟩
instance : AggT Try.prog 323 false := ⟨Try.isAgg323⟩
instance : ZeroT Try.prog 323 (Go.Value.nilFunc) := ⟨Try.zeroValue323⟩
instance : SizeT Try.prog 324 1 := ⟨Try.sizeOf324⟩
instance : AggT Try.prog 324 false := ⟨Try.isAgg324⟩
instance : ZeroT Try.prog 324 (Go.Value.nilFunc) := ⟨Try.zeroValue324⟩
instance : SizeT Try.prog 325 4 := ⟨Try.sizeOf325⟩
instance : AggT Try.prog 325 true := ⟨Try.isAgg325⟩
instance : ZeroT Try.prog 325 (Go.Value.agg #[Go.Value.pointer none, Go.Value.pointer none, Go.Value.pointer none, Go.Value.string { data := #[] }]) := ⟨Try.zeroValue325⟩
instance : FieldT Try.prog 325 0 0 := ⟨fun a w => by simp [Instr.fieldAt, Instr.sureAddr, Try.runUnderlying325, fieldPlace]⟩
instance : FieldT Try.prog 325 1 1 := ⟨fun a w => by simp [Instr.fieldAt, Instr.sureAddr, Try.runUnderlying325, fieldPlace]⟩
instance : FieldT Try.prog 325 2 2 := ⟨fun a w => by simp [Instr.fieldAt, Instr.sureAddr, Try.runUnderlying325, fieldPlace]⟩
instance : FieldT Try.prog 325 3 3 := ⟨fun a w => by simp [Instr.fieldAt, Instr.sureAddr, Try.runUnderlying325, fieldPlace]⟩
instance : SizeT Try.prog 326 4 := ⟨Try.sizeOf326⟩
instance : AggT Try.prog 326 true := ⟨Try.isAgg326⟩
instance : ZeroT Try.prog 326 (Go.Value.agg #[Go.Value.pointer none, Go.Value.pointer none, Go.Value.pointer none, Go.Value.string { data := #[] }]) := ⟨Try.zeroValue326⟩
instance : FieldT Try.prog 326 0 0 := ⟨fun a w => by simp [Instr.fieldAt, Instr.sureAddr, Try.runUnderlying326, fieldPlace]⟩
instance : FieldT Try.prog 326 1 1 := ⟨fun a w => by simp [Instr.fieldAt, Instr.sureAddr, Try.runUnderlying326, fieldPlace]⟩
instance : FieldT Try.prog 326 2 2 := ⟨fun a w => by simp [Instr.fieldAt, Instr.sureAddr, Try.runUnderlying326, fieldPlace]⟩
instance : FieldT Try.prog 326 3 3 := ⟨fun a w => by simp [Instr.fieldAt, Instr.sureAddr, Try.runUnderlying326, fieldPlace]⟩
instance : SizeT Try.prog 327 0 := ⟨Try.sizeOf327⟩
instance : AggT Try.prog 327 true := ⟨Try.isAgg327⟩
instance : ZeroT Try.prog 327 (Go.Value.agg #[]) := ⟨Try.zeroValue327⟩
instance : UndT Try.prog 327 (Go.TypeDesc.array 0 16) := ⟨Try.underlying327⟩
instance : SizeT Try.prog 328 0 := ⟨Try.sizeOf328⟩
instance : AggT Try.prog 328 true := ⟨Try.isAgg328⟩
instance : ZeroT Try.prog 328 (Go.Value.agg #[]) := ⟨Try.zeroValue328⟩
instance : SizeT Try.prog 329 0 := ⟨Try.sizeOf329⟩
instance : AggT Try.prog 329 true := ⟨Try.isAgg329⟩
instance : ZeroT Try.prog 329 (Go.Value.agg #[]) := ⟨Try.zeroValue329⟩
instance : SizeT Try.prog 330 1 := ⟨Try.sizeOf330⟩
instance : AggT Try.prog 330 false := ⟨Try.isAgg330⟩
instance : ZeroT Try.prog 330 (Go.Value.int Go.IntKind.u8 0) := ⟨Try.zeroValue330⟩
instance : UndT Try.prog 330 (Go.TypeDesc.int Go.IntKind.u8) := ⟨Try.underlying330⟩
instance : SizeT Try.prog 331 1 := ⟨Try.sizeOf331⟩
instance : AggT Try.prog 331 false := ⟨Try.isAgg331⟩
instance : ZeroT Try.prog 331 (Go.Value.int Go.IntKind.u8 0) := ⟨Try.zeroValue331⟩
instance : UndT Try.prog 331 (Go.TypeDesc.int Go.IntKind.u8) := ⟨Try.underlying331⟩
instance : SizeT Try.prog 332 1 := ⟨Try.sizeOf332⟩
instance : AggT Try.prog 332 false := ⟨Try.isAgg332⟩
instance : ZeroT Try.prog 332 (Go.Value.nilFunc) := ⟨Try.zeroValue332⟩
instance : SizeT Try.prog 333 1 := ⟨Try.sizeOf333⟩
instance : AggT Try.prog 333 false := ⟨Try.isAgg333⟩
instance : ZeroT Try.prog 333 (Go.Value.pointer none) := ⟨Try.zeroValue333⟩
instance : UndT Try.prog 333 (Go.TypeDesc.pointer 5) := ⟨Try.underlying333⟩
instance : SizeT Try.prog 334 1 := ⟨Try.sizeOf334⟩
instance : AggT Try.prog 334 false := ⟨Try.isAgg334⟩
instance : ZeroT Try.prog 334 (Go.Value.int Go.IntKind.i32 0) := ⟨Try.zeroValue334⟩
instance : UndT Try.prog 334 (Go.TypeDesc.int Go.IntKind.i32) := ⟨Try.underlying334⟩
instance : SizeT Try.prog 335 1 := ⟨Try.sizeOf335⟩
instance : AggT Try.prog 335 false := ⟨Try.isAgg335⟩
instance : ZeroT Try.prog 335 (Go.Value.int Go.IntKind.i32 0) := ⟨Try.zeroValue335⟩
instance : UndT Try.prog 335 (Go.TypeDesc.int Go.IntKind.i32) := ⟨Try.underlying335⟩
instance : SizeT Try.prog 336 11 := ⟨Try.sizeOf336⟩
instance : AggT Try.prog 336 true := ⟨Try.isAgg336⟩
instance : ZeroT Try.prog 336 (Go.Value.agg #[Go.Value.int Go.IntKind.u64 0, Go.Value.int Go.IntKind.u64 0, Go.Value.int Go.IntKind.u32 0, Go.Value.int Go.IntKind.u8 0, Go.Value.int Go.IntKind.u8 0, Go.Value.int Go.IntKind.u8 0, Go.Value.int Go.IntKind.u8 0, Go.Value.nilFunc, Go.Value.pointer none, Go.Value.int Go.IntKind.i32 0, Go.Value.int Go.IntKind.i32 0]) := ⟨Try.zeroValue336⟩
instance : FieldT Try.prog 336 0 0 := ⟨fun a w => by simp [Instr.fieldAt, Instr.sureAddr, Try.runUnderlying336, fieldPlace]⟩
instance : FieldT Try.prog 336 1 1 := ⟨fun a w => by simp [Instr.fieldAt, Instr.sureAddr, Try.runUnderlying336, fieldPlace]⟩
instance : FieldT Try.prog 336 2 2 := ⟨fun a w => by simp [Instr.fieldAt, Instr.sureAddr, Try.runUnderlying336, fieldPlace]⟩
instance : FieldT Try.prog 336 3 3 := ⟨fun a w => by simp [Instr.fieldAt, Instr.sureAddr, Try.runUnderlying336, fieldPlace]⟩
instance : FieldT Try.prog 336 4 4 := ⟨fun a w => by simp [Instr.fieldAt, Instr.sureAddr, Try.runUnderlying336, fieldPlace]⟩
instance : FieldT Try.prog 336 5 5 := ⟨fun a w => by simp [Instr.fieldAt, Instr.sureAddr, Try.runUnderlying336, fieldPlace]⟩
instance : FieldT Try.prog 336 6 6 := ⟨fun a w => by simp [Instr.fieldAt, Instr.sureAddr, Try.runUnderlying336, fieldPlace]⟩
instance : FieldT Try.prog 336 7 7 := ⟨fun a w => by simp [Instr.fieldAt, Instr.sureAddr, Try.runUnderlying336, fieldPlace]⟩
instance : FieldT Try.prog 336 8 8 := ⟨fun a w => by simp [Instr.fieldAt, Instr.sureAddr, Try.runUnderlying336, fieldPlace]⟩
instance : FieldT Try.prog 336 9 9 := ⟨fun a w => by simp [Instr.fieldAt, Instr.sureAddr, Try.runUnderlying336, fieldPlace]⟩
instance : FieldT Try.prog 336 10 10 := ⟨fun a w => by simp [Instr.fieldAt, Instr.sureAddr, Try.runUnderlying336, fieldPlace]⟩
instance : SizeT Try.prog 337 11 := ⟨Try.sizeOf337⟩
instance : AggT Try.prog 337 true := ⟨Try.isAgg337⟩
instance : ZeroT Try.prog 337 (Go.Value.agg #[Go.Value.int Go.IntKind.u64 0, Go.Value.int Go.IntKind.u64 0, Go.Value.int Go.IntKind.u32 0, Go.Value.int Go.IntKind.u8 0, Go.Value.int Go.IntKind.u8 0, Go.Value.int Go.IntKind.u8 0, Go.Value.int Go.IntKind.u8 0, Go.Value.nilFunc, Go.Value.pointer none, Go.Value.int Go.IntKind.i32 0, Go.Value.int Go.IntKind.i32 0]) := ⟨Try.zeroValue337⟩
instance : FieldT Try.prog 337 0 0 := ⟨fun a w => by simp [Instr.fieldAt, Instr.sureAddr, Try.runUnderlying337, fieldPlace]⟩
instance : FieldT Try.prog 337 1 1 := ⟨fun a w => by simp [Instr.fieldAt, Instr.sureAddr, Try.runUnderlying337, fieldPlace]⟩
instance : FieldT Try.prog 337 2 2 := ⟨fun a w => by simp [Instr.fieldAt, Instr.sureAddr, Try.runUnderlying337, fieldPlace]⟩
instance : FieldT Try.prog 337 3 3 := ⟨fun a w => by simp [Instr.fieldAt, Instr.sureAddr, Try.runUnderlying337, fieldPlace]⟩
instance : FieldT Try.prog 337 4 4 := ⟨fun a w => by simp [Instr.fieldAt, Instr.sureAddr, Try.runUnderlying337, fieldPlace]⟩
instance : FieldT Try.prog 337 5 5 := ⟨fun a w => by simp [Instr.fieldAt, Instr.sureAddr, Try.runUnderlying337, fieldPlace]⟩
instance : FieldT Try.prog 337 6 6 := ⟨fun a w => by simp [Instr.fieldAt, Instr.sureAddr, Try.runUnderlying337, fieldPlace]⟩
instance : FieldT Try.prog 337 7 7 := ⟨fun a w => by simp [Instr.fieldAt, Instr.sureAddr, Try.runUnderlying337, fieldPlace]⟩
instance : FieldT Try.prog 337 8 8 := ⟨fun a w => by simp [Instr.fieldAt, Instr.sureAddr, Try.runUnderlying337, fieldPlace]⟩
instance : FieldT Try.prog 337 9 9 := ⟨fun a w => by simp [Instr.fieldAt, Instr.sureAddr, Try.runUnderlying337, fieldPlace]⟩
instance : FieldT Try.prog 337 10 10 := ⟨fun a w => by simp [Instr.fieldAt, Instr.sureAddr, Try.runUnderlying337, fieldPlace]⟩
instance : SizeT Try.prog 338 1 := ⟨Try.sizeOf338⟩
instance : AggT Try.prog 338 false := ⟨Try.isAgg338⟩
instance : ZeroT Try.prog 338 (Go.Value.nilFunc) := ⟨Try.zeroValue338⟩
instance : SizeT Try.prog 339 1 := ⟨Try.sizeOf339⟩
instance : AggT Try.prog 339 false := ⟨Try.isAgg339⟩
instance : ZeroT Try.prog 339 (Go.Value.pointer none) := ⟨Try.zeroValue339⟩
instance : ElemT Try.prog 1 1 8 := elemT_of (by kernel_rfl)
instance : ElemT Try.prog 2 1 8 := elemT_of (by kernel_rfl)
instance : ElemT Try.prog 3 1 8 := elemT_of (by kernel_rfl)
instance : ElemT Try.prog 4 1 1 := elemT_of (by kernel_rfl)
instance : ElemT Try.prog 5 1 1 := elemT_of (by kernel_rfl)
instance : ElemT Try.prog 6 1 1 := elemT_of (by kernel_rfl)
instance : ElemT Try.prog 7 4 24 := elemT_of (by kernel_rfl)
instance : ElemT Try.prog 8 4 24 := elemT_of (by kernel_rfl)
instance : ElemT Try.prog 9 1 16 := elemT_of (by kernel_rfl)
instance : ElemT Try.prog 10 1 16 := elemT_of (by kernel_rfl)
instance : ElemT Try.prog 11 1 16 := elemT_of (by kernel_rfl)
instance : ElemT Try.prog 12 1 8 := elemT_of (by kernel_rfl)
instance : ElemT Try.prog 13 2 24 := elemT_of (by kernel_rfl)
instance : ElemT Try.prog 14 2 24 := elemT_of (by kernel_rfl)
instance : ElemT Try.prog 15 1 8 := elemT_of (by kernel_rfl)
instance : ElemT Try.prog 16 1 8 := elemT_of (by kernel_rfl)
instance : ElemT Try.prog 17 1 8 := elemT_of (by kernel_rfl)
instance : ElemT Try.prog 18 1 8 := elemT_of (by kernel_rfl)
instance : ElemT Try.prog 19 1 8 := elemT_of (by kernel_rfl)
instance : ElemT Try.prog 21 1 4 := elemT_of (by kernel_rfl)
instance : ElemT Try.prog 22 1 24 := elemT_of (by kernel_rfl)
instance : ElemT Try.prog 23 1 2 := elemT_of (by kernel_rfl)
instance : ElemT Try.prog 24 1 8 := elemT_of (by kernel_rfl)
instance : ElemT Try.prog 25 1 24 := elemT_of (by kernel_rfl)
instance : ElemT Try.prog 26 1 24 := elemT_of (by kernel_rfl)
instance : ElemT Try.prog 27 4 72 := elemT_of (by kernel_rfl)
instance : ElemT Try.prog 28 4 72 := elemT_of (by kernel_rfl)
instance : ElemT Try.prog 29 1 24 := elemT_of (by kernel_rfl)
instance : ElemT Try.prog 30 1 1 := elemT_of (by kernel_rfl)
instance : ElemT Try.prog 31 3 3 := elemT_of (by kernel_rfl)
instance : ElemT Try.prog 32 1 4 := elemT_of (by kernel_rfl)
instance : ElemT Try.prog 33 3 12 := elemT_of (by kernel_rfl)
instance : ElemT Try.prog 34 5 32 := elemT_of (by kernel_rfl)
instance : ElemT Try.prog 35 5 32 := elemT_of (by kernel_rfl)
instance : ElemT Try.prog 36 20 20 := elemT_of (by kernel_rfl)
instance : ElemT Try.prog 37 1 8 := elemT_of (by kernel_rfl)
instance : ElemT Try.prog 39 1 8 := elemT_of (by kernel_rfl)
instance : ElemT Try.prog 40 4 72 := elemT_of (by kernel_rfl)
instance : ElemT Try.prog 42 1 8 := elemT_of (by kernel_rfl)
instance : ElemT Try.prog 43 1 24 := elemT_of (by kernel_rfl)
instance : ElemT Try.prog 45 1 8 := elemT_of (by kernel_rfl)
instance : ElemT Try.prog 46 1 24 := elemT_of (by kernel_rfl)
instance : ElemT Try.prog 48 1 8 := elemT_of (by kernel_rfl)
instance : ElemT Try.prog 50 1 8 := elemT_of (by kernel_rfl)
instance : ElemT Try.prog 51 1 8 := elemT_of (by kernel_rfl)
instance : ElemT Try.prog 53 1 8 := elemT_of (by kernel_rfl)
instance : ElemT Try.prog 54 1 8 := elemT_of (by kernel_rfl)
instance : ElemT Try.prog 55 1 8 := elemT_of (by kernel_rfl)
instance : ElemT Try.prog 56 1 8 := elemT_of (by kernel_rfl)
instance : ElemT Try.prog 57 1 8 := elemT_of (by kernel_rfl)
instance : ElemT Try.prog 58 1 24 := elemT_of (by kernel_rfl)
instance : ElemT Try.prog 59 1 24 := elemT_of (by kernel_rfl)
instance : ElemT Try.prog 60 1 24 := elemT_of (by kernel_rfl)
instance : ElemT Try.prog 61 1 24 := elemT_of (by kernel_rfl)
instance : ElemT Try.prog 62 2 2 := elemT_of (by kernel_rfl)
instance : ElemT Try.prog 63 2 16 := elemT_of (by kernel_rfl)
instance : ElemT Try.prog 64 2 16 := elemT_of (by kernel_rfl)
instance : ElemT Try.prog 65 3 24 := elemT_of (by kernel_rfl)
instance : ElemT Try.prog 66 3 24 := elemT_of (by kernel_rfl)
instance : ElemT Try.prog 68 1 8 := elemT_of (by kernel_rfl)
instance : ElemT Try.prog 69 2 16 := elemT_of (by kernel_rfl)
instance : ElemT Try.prog 70 2 16 := elemT_of (by kernel_rfl)
instance : ElemT Try.prog 71 9 80 := elemT_of (by kernel_rfl)
instance : ElemT Try.prog 72 9 80 := elemT_of (by kernel_rfl)
instance : ElemT Try.prog 73 1 24 := elemT_of (by kernel_rfl)
instance : ElemT Try.prog 74 1 24 := elemT_of (by kernel_rfl)
instance : ElemT Try.prog 76 1 8 := elemT_of (by kernel_rfl)
instance : ElemT Try.prog 77 1 24 := elemT_of (by kernel_rfl)
instance : ElemT Try.prog 79 1 8 := elemT_of (by kernel_rfl)
instance : ElemT Try.prog 80 1 8 := elemT_of (by kernel_rfl)
instance : ElemT Try.prog 81 1 8 := elemT_of (by kernel_rfl)
instance : ElemT Try.prog 82 1 24 := elemT_of (by kernel_rfl)
instance : ElemT Try.prog 83 1 8 := elemT_of (by kernel_rfl)
instance : ElemT Try.prog 84 1 8 := elemT_of (by kernel_rfl)
instance : ElemT Try.prog 85 12 216 := elemT_of (by kernel_rfl)
instance : ElemT Try.prog 86 3 3 := elemT_of (by kernel_rfl)
instance : ElemT Try.prog 87 1 8 := elemT_of (by kernel_rfl)
instance : ElemT Try.prog 88 1 8 := elemT_of (by kernel_rfl)
instance : ElemT Try.prog 89 1 8 := elemT_of (by kernel_rfl)
instance : ElemT Try.prog 90 12 216 := elemT_of (by kernel_rfl)
instance : ElemT Try.prog 91 1 8 := elemT_of (by kernel_rfl)
instance : ElemT Try.prog 93 3 24 := elemT_of (by kernel_rfl)
instance : ElemT Try.prog 95 1 8 := elemT_of (by kernel_rfl)
instance : ElemT Try.prog 96 1 8 := elemT_of (by kernel_rfl)
instance : ElemT Try.prog 97 1 8 := elemT_of (by kernel_rfl)
instance : ElemT Try.prog 98 1 8 := elemT_of (by kernel_rfl)
instance : ElemT Try.prog 99 1 8 := elemT_of (by kernel_rfl)
instance : ElemT Try.prog 100 2 16 := elemT_of (by kernel_rfl)
instance : ElemT Try.prog 101 2 16 := elemT_of (by kernel_rfl)
instance : ElemT Try.prog 102 1 8 := elemT_of (by kernel_rfl)
instance : ElemT Try.prog 103 1 8 := elemT_of (by kernel_rfl)
instance : ElemT Try.prog 105 1 8 := elemT_of (by kernel_rfl)
instance : ElemT Try.prog 106 1 8 := elemT_of (by kernel_rfl)
instance : ElemT Try.prog 107 1 8 := elemT_of (by kernel_rfl)
instance : ElemT Try.prog 108 1 24 := elemT_of (by kernel_rfl)
instance : ElemT Try.prog 109 2 48 := elemT_of (by kernel_rfl)
instance : ElemT Try.prog 110 1 8 := elemT_of (by kernel_rfl)
instance : ElemT Try.prog 111 1 8 := elemT_of (by kernel_rfl)
instance : ElemT Try.prog 112 1 8 := elemT_of (by kernel_rfl)
instance : ElemT Try.prog 113 1 8 := elemT_of (by kernel_rfl)
instance : ElemT Try.prog 114 4 32 := elemT_of (by kernel_rfl)
instance : ElemT Try.prog 115 4 32 := elemT_of (by kernel_rfl)
instance : ElemT Try.prog 116 1 24 := elemT_of (by kernel_rfl)
instance : ElemT Try.prog 117 1 24 := elemT_of (by kernel_rfl)
instance : ElemT Try.prog 118 2 48 := elemT_of (by kernel_rfl)
instance : ElemT Try.prog 119 2 48 := elemT_of (by kernel_rfl)
instance : ElemT Try.prog 120 2 16 := elemT_of (by kernel_rfl)
instance : ElemT Try.prog 122 1 8 := elemT_of (by kernel_rfl)
instance : ElemT Try.prog 123 1 24 := elemT_of (by kernel_rfl)
instance : ElemT Try.prog 124 1 8 := elemT_of (by kernel_rfl)
instance : ElemT Try.prog 125 1 8 := elemT_of (by kernel_rfl)
instance : ElemT Try.prog 126 1 8 := elemT_of (by kernel_rfl)
instance : ElemT Try.prog 128 1 8 := elemT_of (by kernel_rfl)
instance : ElemT Try.prog 130 1 8 := elemT_of (by kernel_rfl)
instance : ElemT Try.prog 131 2 32 := elemT_of (by kernel_rfl)
instance : ElemT Try.prog 132 5 48 := elemT_of (by kernel_rfl)
instance : ElemT Try.prog 133 5 48 := elemT_of (by kernel_rfl)
instance : ElemT Try.prog 134 2 16 := elemT_of (by kernel_rfl)
instance : ElemT Try.prog 135 2 16 := elemT_of (by kernel_rfl)
instance : ElemT Try.prog 137 1 8 := elemT_of (by kernel_rfl)
instance : ElemT Try.prog 138 1 8 := elemT_of (by kernel_rfl)
instance : ElemT Try.prog 139 1 8 := elemT_of (by kernel_rfl)
instance : ElemT Try.prog 140 1 8 := elemT_of (by kernel_rfl)
instance : ElemT Try.prog 141 1 8 := elemT_of (by kernel_rfl)
instance : ElemT Try.prog 142 1 8 := elemT_of (by kernel_rfl)
instance : ElemT Try.prog 143 1 8 := elemT_of (by kernel_rfl)
instance : ElemT Try.prog 144 1 8 := elemT_of (by kernel_rfl)
instance : ElemT Try.prog 145 1 8 := elemT_of (by kernel_rfl)
instance : ElemT Try.prog 146 1 8 := elemT_of (by kernel_rfl)
instance : ElemT Try.prog 147 1 24 := elemT_of (by kernel_rfl)
instance : ElemT Try.prog 148 1 8 := elemT_of (by kernel_rfl)
instance : ElemT Try.prog 149 1 8 := elemT_of (by kernel_rfl)
instance : ElemT Try.prog 150 1 8 := elemT_of (by kernel_rfl)
instance : ElemT Try.prog 151 1 8 := elemT_of (by kernel_rfl)
instance : ElemT Try.prog 152 1 8 := elemT_of (by kernel_rfl)
instance : ElemT Try.prog 153 1 8 := elemT_of (by kernel_rfl)
instance : ElemT Try.prog 154 1 8 := elemT_of (by kernel_rfl)
instance : ElemT Try.prog 155 1 8 := elemT_of (by kernel_rfl)
instance : ElemT Try.prog 156 1 8 := elemT_of (by kernel_rfl)
instance : ElemT Try.prog 157 2 16 := elemT_of (by kernel_rfl)
instance : ElemT Try.prog 158 2 16 := elemT_of (by kernel_rfl)
instance : ElemT Try.prog 159 1 24 := elemT_of (by kernel_rfl)
instance : ElemT Try.prog 160 1 8 := elemT_of (by kernel_rfl)
instance : ElemT Try.prog 161 1 8 := elemT_of (by kernel_rfl)
instance : ElemT Try.prog 162 1 8 := elemT_of (by kernel_rfl)
instance : ElemT Try.prog 163 1 8 := elemT_of (by kernel_rfl)
instance : ElemT Try.prog 164 1 8 := elemT_of (by kernel_rfl)
instance : ElemT Try.prog 165 1 8 := elemT_of (by kernel_rfl)
instance : ElemT Try.prog 166 1 8 := elemT_of (by kernel_rfl)
instance : ElemT Try.prog 167 1 8 := elemT_of (by kernel_rfl)
instance : ElemT Try.prog 168 1 8 := elemT_of (by kernel_rfl)
instance : ElemT Try.prog 169 1 8 := elemT_of (by kernel_rfl)
instance : ElemT Try.prog 170 1 8 := elemT_of (by kernel_rfl)
instance : ElemT Try.prog 171 1 8 := elemT_of (by kernel_rfl)
instance : ElemT Try.prog 172 1 8 := elemT_of (by kernel_rfl)
instance : ElemT Try.prog 173 1 8 := elemT_of (by kernel_rfl)
instance : ElemT Try.prog 174 1 8 := elemT_of (by kernel_rfl)
instance : ElemT Try.prog 175 1 8 := elemT_of (by kernel_rfl)
instance : ElemT Try.prog 176 1 8 := elemT_of (by kernel_rfl)
instance : ElemT Try.prog 177 1 8 := elemT_of (by kernel_rfl)
instance : ElemT Try.prog 178 1 8 := elemT_of (by kernel_rfl)
instance : ElemT Try.prog 179 1 24 := elemT_of (by kernel_rfl)
instance : ElemT Try.prog 180 1 8 := elemT_of (by kernel_rfl)
instance : ElemT Try.prog 181 1 8 := elemT_of (by kernel_rfl)
instance : ElemT Try.prog 182 1 24 := elemT_of (by kernel_rfl)
instance : ElemT Try.prog 183 1 8 := elemT_of (by kernel_rfl)
instance : ElemT Try.prog 184 1 8 := elemT_of (by kernel_rfl)
instance : ElemT Try.prog 185 6 48 := elemT_of (by kernel_rfl)
instance : ElemT Try.prog 186 1 8 := elemT_of (by kernel_rfl)
instance : ElemT Try.prog 187 1 8 := elemT_of (by kernel_rfl)
instance : ElemT Try.prog 188 1 8 := elemT_of (by kernel_rfl)
instance : ElemT Try.prog 189 1 8 := elemT_of (by kernel_rfl)
instance : ElemT Try.prog 190 1 8 := elemT_of (by kernel_rfl)
instance : ElemT Try.prog 191 1 8 := elemT_of (by kernel_rfl)
instance : ElemT Try.prog 192 1 8 := elemT_of (by kernel_rfl)
instance : ElemT Try.prog 193 2 16 := elemT_of (by kernel_rfl)
instance : ElemT Try.prog 194 1 8 := elemT_of (by kernel_rfl)
instance : ElemT Try.prog 195 1 8 := elemT_of (by kernel_rfl)
instance : ElemT Try.prog 196 1 8 := elemT_of (by kernel_rfl)
instance : ElemT Try.prog 197 1 8 := elemT_of (by kernel_rfl)
instance : ElemT Try.prog 198 1 8 := elemT_of (by kernel_rfl)
instance : ElemT Try.prog 199 1 8 := elemT_of (by kernel_rfl)
instance : ElemT Try.prog 200 1 8 := elemT_of (by kernel_rfl)
instance : ElemT Try.prog 201 1 24 := elemT_of (by kernel_rfl)
instance : ElemT Try.prog 203 1 8 := elemT_of (by kernel_rfl)
instance : ElemT Try.prog 204 2 16 := elemT_of (by kernel_rfl)
instance : ElemT Try.prog 205 2 16 := elemT_of (by kernel_rfl)
instance : ElemT Try.prog 206 3 24 := elemT_of (by kernel_rfl)
instance : ElemT Try.prog 207 3 24 := elemT_of (by kernel_rfl)
instance : ElemT Try.prog 208 1 8 := elemT_of (by kernel_rfl)
instance : ElemT Try.prog 209 1 8 := elemT_of (by kernel_rfl)
instance : ElemT Try.prog 210 1 8 := elemT_of (by kernel_rfl)
instance : ElemT Try.prog 211 1 8 := elemT_of (by kernel_rfl)
instance : ElemT Try.prog 212 1 8 := elemT_of (by kernel_rfl)
instance : ElemT Try.prog 213 1 8 := elemT_of (by kernel_rfl)
instance : ElemT Try.prog 214 1 8 := elemT_of (by kernel_rfl)
instance : ElemT Try.prog 215 3 40 := elemT_of (by kernel_rfl)
instance : ElemT Try.prog 216 3 40 := elemT_of (by kernel_rfl)
instance : ElemT Try.prog 217 1 8 := elemT_of (by kernel_rfl)
instance : ElemT Try.prog 218 1 8 := elemT_of (by kernel_rfl)
instance : ElemT Try.prog 219 1 8 := elemT_of (by kernel_rfl)
instance : ElemT Try.prog 220 1 8 := elemT_of (by kernel_rfl)
instance : ElemT Try.prog 221 1 8 := elemT_of (by kernel_rfl)
instance : ElemT Try.prog 222 1 8 := elemT_of (by kernel_rfl)
instance : ElemT Try.prog 223 1 8 := elemT_of (by kernel_rfl)
instance : ElemT Try.prog 224 1 8 := elemT_of (by kernel_rfl)
instance : ElemT Try.prog 225 1 4 := elemT_of (by kernel_rfl)
instance : ElemT Try.prog 226 1 8 := elemT_of (by kernel_rfl)
instance : ElemT Try.prog 227 1 8 := elemT_of (by kernel_rfl)
instance : ElemT Try.prog 228 1 8 := elemT_of (by kernel_rfl)
instance : ElemT Try.prog 230 1 8 := elemT_of (by kernel_rfl)
instance : ElemT Try.prog 231 1 8 := elemT_of (by kernel_rfl)
instance : ElemT Try.prog 232 1 8 := elemT_of (by kernel_rfl)
instance : ElemT Try.prog 233 1 8 := elemT_of (by kernel_rfl)
instance : ElemT Try.prog 234 1 8 := elemT_of (by kernel_rfl)
instance : ElemT Try.prog 235 1 8 := elemT_of (by kernel_rfl)
instance : ElemT Try.prog 236 1 8 := elemT_of (by kernel_rfl)
instance : ElemT Try.prog 237 1 8 := elemT_of (by kernel_rfl)
instance : ElemT Try.prog 238 1 8 := elemT_of (by kernel_rfl)
instance : ElemT Try.prog 239 1 8 := elemT_of (by kernel_rfl)
instance : ElemT Try.prog 240 1 8 := elemT_of (by kernel_rfl)
instance : ElemT Try.prog 241 1 8 := elemT_of (by kernel_rfl)
instance : ElemT Try.prog 242 1 8 := elemT_of (by kernel_rfl)
instance : ElemT Try.prog 243 1 8 := elemT_of (by kernel_rfl)
instance : ElemT Try.prog 244 1 8 := elemT_of (by kernel_rfl)
instance : ElemT Try.prog 245 1 8 := elemT_of (by kernel_rfl)
instance : ElemT Try.prog 246 1 8 := elemT_of (by kernel_rfl)
instance : ElemT Try.prog 247 1 8 := elemT_of (by kernel_rfl)
instance : ElemT Try.prog 248 2 16 := elemT_of (by kernel_rfl)
instance : ElemT Try.prog 249 2 16 := elemT_of (by kernel_rfl)
instance : ElemT Try.prog 250 8 64 := elemT_of (by kernel_rfl)
instance : ElemT Try.prog 251 1 8 := elemT_of (by kernel_rfl)
instance : ElemT Try.prog 252 1 8 := elemT_of (by kernel_rfl)
instance : ElemT Try.prog 253 1 8 := elemT_of (by kernel_rfl)
instance : ElemT Try.prog 254 1 8 := elemT_of (by kernel_rfl)
instance : ElemT Try.prog 255 1 8 := elemT_of (by kernel_rfl)
instance : ElemT Try.prog 256 1 8 := elemT_of (by kernel_rfl)
instance : ElemT Try.prog 257 3 24 := elemT_of (by kernel_rfl)
instance : ElemT Try.prog 258 3 24 := elemT_of (by kernel_rfl)
instance : ElemT Try.prog 259 1 8 := elemT_of (by kernel_rfl)
instance : ElemT Try.prog 260 1 8 := elemT_of (by kernel_rfl)
instance : ElemT Try.prog 261 1 24 := elemT_of (by kernel_rfl)
instance : ElemT Try.prog 262 1 8 := elemT_of (by kernel_rfl)
instance : ElemT Try.prog 263 1 8 := elemT_of (by kernel_rfl)
instance : ElemT Try.prog 264 1 8 := elemT_of (by kernel_rfl)
instance : ElemT Try.prog 265 1 8 := elemT_of (by kernel_rfl)
instance : ElemT Try.prog 266 1 8 := elemT_of (by kernel_rfl)
instance : ElemT Try.prog 267 1 8 := elemT_of (by kernel_rfl)
instance : ElemT Try.prog 268 1 8 := elemT_of (by kernel_rfl)
instance : ElemT Try.prog 269 1 8 := elemT_of (by kernel_rfl)
instance : ElemT Try.prog 270 1 8 := elemT_of (by kernel_rfl)
instance : ElemT Try.prog 271 1 8 := elemT_of (by kernel_rfl)
instance : ElemT Try.prog 272 1 8 := elemT_of (by kernel_rfl)
instance : ElemT Try.prog 273 1 8 := elemT_of (by kernel_rfl)
instance : ElemT Try.prog 274 4 4 := elemT_of (by kernel_rfl)
instance : ElemT Try.prog 275 1 8 := elemT_of (by kernel_rfl)
instance : ElemT Try.prog 276 1 8 := elemT_of (by kernel_rfl)
instance : ElemT Try.prog 277 1 8 := elemT_of (by kernel_rfl)
instance : ElemT Try.prog 278 1 8 := elemT_of (by kernel_rfl)
instance : ElemT Try.prog 279 1 8 := elemT_of (by kernel_rfl)
instance : ElemT Try.prog 280 1 8 := elemT_of (by kernel_rfl)
instance : ElemT Try.prog 281 1 8 := elemT_of (by kernel_rfl)
instance : ElemT Try.prog 282 1 8 := elemT_of (by kernel_rfl)
instance : ElemT Try.prog 283 1 8 := elemT_of (by kernel_rfl)
instance : ElemT Try.prog 284 1 8 := elemT_of (by kernel_rfl)
instance : ElemT Try.prog 285 1 8 := elemT_of (by kernel_rfl)
instance : ElemT Try.prog 286 1 8 := elemT_of (by kernel_rfl)
instance : ElemT Try.prog 287 1 8 := elemT_of (by kernel_rfl)
instance : ElemT Try.prog 288 1 8 := elemT_of (by kernel_rfl)
instance : ElemT Try.prog 289 1 8 := elemT_of (by kernel_rfl)
instance : ElemT Try.prog 291 1 8 := elemT_of (by kernel_rfl)
instance : ElemT Try.prog 292 1 8 := elemT_of (by kernel_rfl)
instance : ElemT Try.prog 293 1 8 := elemT_of (by kernel_rfl)
instance : ElemT Try.prog 294 1 8 := elemT_of (by kernel_rfl)
instance : ElemT Try.prog 295 1 8 := elemT_of (by kernel_rfl)
instance : ElemT Try.prog 296 1 8 := elemT_of (by kernel_rfl)
instance : ElemT Try.prog 297 1 8 := elemT_of (by kernel_rfl)
instance : ElemT Try.prog 299 1 8 := elemT_of (by kernel_rfl)
instance : ElemT Try.prog 300 1 8 := elemT_of (by kernel_rfl)
instance : ElemT Try.prog 301 1 8 := elemT_of (by kernel_rfl)
instance : ElemT Try.prog 302 1 8 := elemT_of (by kernel_rfl)
instance : ElemT Try.prog 303 1 8 := elemT_of (by kernel_rfl)
instance : ElemT Try.prog 304 1 8 := elemT_of (by kernel_rfl)
instance : ElemT Try.prog 305 1 8 := elemT_of (by kernel_rfl)
instance : ElemT Try.prog 306 1 8 := elemT_of (by kernel_rfl)
instance : ElemT Try.prog 307 1 8 := elemT_of (by kernel_rfl)
instance : ElemT Try.prog 308 1 8 := elemT_of (by kernel_rfl)
instance : ElemT Try.prog 309 1 8 := elemT_of (by kernel_rfl)
instance : ElemT Try.prog 310 1 8 := elemT_of (by kernel_rfl)
instance : ElemT Try.prog 311 1 8 := elemT_of (by kernel_rfl)
instance : ElemT Try.prog 312 1 8 := elemT_of (by kernel_rfl)
instance : ElemT Try.prog 313 1 8 := elemT_of (by kernel_rfl)
instance : ElemT Try.prog 315 1 8 := elemT_of (by kernel_rfl)
instance : ElemT Try.prog 317 1 8 := elemT_of (by kernel_rfl)
instance : ElemT Try.prog 318 1 8 := elemT_of (by kernel_rfl)
instance : ElemT Try.prog 319 1 8 := elemT_of (by kernel_rfl)
instance : ElemT Try.prog 320 1 8 := elemT_of (by kernel_rfl)
instance : ElemT Try.prog 322 1 8 := elemT_of (by kernel_rfl)
instance : ElemT Try.prog 323 1 8 := elemT_of (by kernel_rfl)
instance : ElemT Try.prog 324 1 8 := elemT_of (by kernel_rfl)
instance : ElemT Try.prog 325 4 40 := elemT_of (by kernel_rfl)
instance : ElemT Try.prog 326 4 40 := elemT_of (by kernel_rfl)
instance : ElemT Try.prog 330 1 1 := elemT_of (by kernel_rfl)
instance : ElemT Try.prog 331 1 1 := elemT_of (by kernel_rfl)
instance : ElemT Try.prog 332 1 8 := elemT_of (by kernel_rfl)
instance : ElemT Try.prog 333 1 8 := elemT_of (by kernel_rfl)
instance : ElemT Try.prog 334 1 4 := elemT_of (by kernel_rfl)
instance : ElemT Try.prog 335 1 4 := elemT_of (by kernel_rfl)
instance : ElemT Try.prog 336 11 48 := elemT_of (by kernel_rfl)
instance : ElemT Try.prog 337 11 48 := elemT_of (by kernel_rfl)
instance : ElemT Try.prog 338 1 8 := elemT_of (by kernel_rfl)
instance : ElemT Try.prog 339 1 8 := elemT_of (by kernel_rfl)

theorem mixed : Try.prog.follows .mixedOrders = true := by kernel_rfl
end Go.Proofs.Ytkoinfegbkigcaa
