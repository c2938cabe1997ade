/- A part of the proof: contracts of functions of the program, each for the inputs that its premises name. -/
import Derived.Test.YtkoinfegbkigcaaRtTG
namespace Go.Proofs.Ytkoinfegbkigcaa
open Go.Rt
set_option maxHeartbeats 400000

/-- The number of bytes, the highest one first. -/
def num (l : List UInt8) : Int := l.foldl (fun x b => 256 * x + (b.toNat : Int)) 0
theorem num_snoc (l : List UInt8) (b : UInt8) : num (l ++ [b]) = 256 * num l + (b.toNat : Int) := by simp [num]
theorem num_bound (l : List UInt8) : ∀ k, k ≤ l.length → 0 ≤ num (l.take k) ∧ num (l.take k) < 256 ^ k
  | 0, _ => by simp [num]
  | k + 1, h => by
    have ih := num_bound l k (by omega)
    have hu := u8_lt (l.getD k default)
    rw [take_snoc (by omega), num_snoc]
    rw [Int.pow_succ]
    omega

theorem number_fn (bs : List UInt8) (hl : bs.length ≤ 4) : FnS Try.prog 181 [Sl bs] (Va (num bs)) := by
  refine spec_enter Try.func181 rfl Try.ntmps181 Try.call181 (by simp) fun C _ => ?_
  refine g_seq ?_
  refine gl_region ?_
  refine gl_op t_assign ?_
  refine gl_nil ?_
  refine g_seq ?_
  refine gl_region ?_
  refine gl_op t_assign ?_
  refine gl_nil ?_
  refine g_seq ?_
  refine g_seq ?_
  refine gl_region ?_
  refine gl_op t_move ?_
  refine gl_op t_len ?_
  refine gl_op t_move ?_
  refine gl_nil ?_
  refine g_block ?_
  refine g_loop (fun k : Nat => k ≤ bs.length) (fun k => [(8, Is (.int .i64 k)), (7, Is (.int .i64 bs.length)), (6, Sl bs), (3, Is (.int .i64 (num (bs.take k))))]) (fun _ => []) (fun k => bs.length - k) (fun H => ?_) (fun k hk ih => ?_)
  · refine g_subF ?_ (H 0 (by simp))
    repeat (first | exact tf_nil | refine tf_cons (by first | exact ot_tmp rfl | exact ot_eq rfl (by first | (simp; done) | (congr 2; omega)) | exact ot_sub (ot_tmp rfl) sl_slf) ?_)
  · have hb := num_bound bs k hk
    have hp : (256 : Int) ^ k ≤ 4294967296 := by
      have : k = 0 ∨ k = 1 ∨ k = 2 ∨ k = 3 ∨ k = 4 := by omega
      rcases this with rfl | rfl | rfl | rfl | rfl <;> decide
    refine g_seq ?_
    refine gl_region ?_
    refine gl_op t_lss ?_
    refine gl_nil ?_
    refine g_seq ?_
    refine g_cond (ot_tmp rfl) (fun h => ?_) (fun h => ?_)
    · simp at h
      have hu := u8_lt (bs.getD k default)
      have hw := u8_i64 (bs.getD k default)
      refine g_skip ?_
      refine g_seq ?_
      refine g_block ?_
      refine g_seq ?_
      refine gl_region ?_
      refine gl_op t_index ?_
      refine gl_op t_load_one ?_
      refine gl_op t_assign ?_
      refine gl_nil ?_
      refine gl_region ?_
      refine gl_op t_move ?_
      refine gl_op t_mul ?_
      refine gl_op t_move ?_
      refine gl_op (t_conv_ii (hx := ot_tmp rfl) (a := ((bs.getD k default).toNat : Int)) (k := .i64)) ?_
      refine gl_op t_add ?_
      refine gl_op t_assign ?_
      refine gl_nil ?_
      refine g_inBlock ?_
      refine gl_region ?_
      refine gl_op t_add ?_
      refine gl_op t_move ?_
      refine gl_nil ?_
      refine g_subF ?_ (ih (k + 1) (by omega) (by omega))
      repeat (first | exact tf_nil | refine tf_cons (by first | exact ot_tmp rfl | exact ot_eq rfl (by rw [hw, take_snoc h, num_snoc])) ?_)
    · simp at h
      refine g_exit rfl ?_
      refine g_seq ?_
      refine gl_region ?_
      refine gl_op t_move ?_
      refine gl_op t_assign ?_
      refine gl_nil ?_
      refine g_ret Try.func181 () (res1e Try.results181 rfl ?_) (.inl rfl)
      rw [List.take_of_length_le (by omega)]
      rfl

end Go.Proofs.Ytkoinfegbkigcaa
