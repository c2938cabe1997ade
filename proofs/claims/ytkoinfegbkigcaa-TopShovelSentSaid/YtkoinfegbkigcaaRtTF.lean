/- A part of the proof: contracts of functions of the program, each for the inputs that its premises name. -/
import Derived.Test.YtkoinfegbkigcaaRtTE
import Derived.Laws.Externs
namespace Go.Proofs.Ytkoinfegbkigcaa
open Go.Rt
set_option maxHeartbeats 400000

theorem run_bits (b : Nat) (w : World) : (callFunc 127 #[.float .f32 b]).run Try.prog w = .ok (.value (.int .u32 b)) w := by
  rw [run_callFunc_extern Try.func127 (by kernel_rfl) (by kernel_rfl) (by kernel_rfl) (e := Extern.MathFloatBits.float32bits) (by kernel_rfl)]
  rfl

theorem t_bits {F : List (Nat × Ty)} {M : List Res} {o : Oper} {x : Operand} {b : Nat} {ats : Array TypeId} (ho : o.op = .call { callee := .value (.func 127), args := #[x], argTypes := ats } := by rfl) (hx : OT F x (Is (.float .f32 b)) := by exact ot_tmp rfl) : OpT Try.prog F M o (Is (.int .u32 b)) :=
  opT_val fun tm V w hf _ _ => by
    have h1 := ot_is hx hf (by simp [ho, Op.operands, Call.operands])
    have h2 := run_bits b w
    have h3 : ev tm (.func 127) = .func (.func 127) #[] #[] := rfl
    exact ⟨.int .u32 b, by simp [execOp, ho, resolve, h3, Deferred.ofValue, invoke, h1, h2], rfl⟩

/-- The bits that stand for a sample in a frame. -/
def bitsOf (x : F32) : Int := if fcmp .eql .f32 x.bits 0 then 0 else x.bits

theorem bits_fn (x : F32) (hl : x.bits < 4294967296) : FnS Try.prog 58 [Va x] (Va (bitsOf x)) := by
  refine spec_enter Try.func58 rfl Try.ntmps58 Try.call58 (by simp) fun C _ => ?_
  refine g_seq ?_
  refine gl_region ?_
  refine gl_op t_assign ?_
  refine gl_nil ?_
  refine g_seq ?_
  refine g_seq ?_
  refine gl_region ?_
  refine gl_op t_move ?_
  refine gl_op (t_fcmp) ?_
  refine gl_nil ?_
  refine g_cond (ot_tmp rfl) (fun h => ?_) (fun h => ?_)
  · refine g_seq ?_
    refine gl_region ?_
    refine gl_op t_assign ?_
    refine gl_nil ?_
    refine g_ret Try.func58 () (res1e Try.results58 rfl ?_) (.inl rfl)
    unfold bitsOf; rw [if_pos h]; rfl
  · refine g_skip ?_
    refine g_seq ?_
    refine gl_region ?_
    refine gl_op t_move ?_
    refine gl_op t_bits ?_
    refine gl_op (t_conv_ii (k := .i64)) ?_
    refine gl_op t_assign ?_
    refine gl_nil ?_
    refine g_ret Try.func58 () (res1e Try.results58 rfl ?_) (.inl rfl)
    unfold bitsOf; rw [if_neg (by rw [h]; simp), IntWalk.i64_in _ (by omega)]; rfl

end Go.Proofs.Ytkoinfegbkigcaa
