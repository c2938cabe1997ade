/- A part of the proof: contracts of functions of the program, each for the inputs that its premises name. -/
import Derived.Test.YtkoinfegbkigcaaRtTD
namespace Go.Proofs.Ytkoinfegbkigcaa
open Go.Rt
set_option maxHeartbeats 400000

/-- The checksum of bytes. -/
def csum (l : List UInt8) : Int := l.foldl (fun x b => (271 * x + (b.toNat : Int)).tmod 16777213) 1
theorem csum_snoc (l : List UInt8) (b : UInt8) : csum (l ++ [b]) = (271 * csum l + (b.toNat : Int)).tmod 16777213 := by simp [csum]
theorem csum_fold (l : List UInt8) : ∀ x : Int, 0 ≤ x ∧ x < 16777213 → 0 ≤ l.foldl (fun x b => (271 * x + (b.toNat : Int)).tmod 16777213) x ∧ l.foldl (fun x b => (271 * x + (b.toNat : Int)).tmod 16777213) x < 16777213 := by
  induction l with
  | nil => intro x h; exact h
  | cons b l ih => intro x h; exact ih _ ⟨Int.tmod_nonneg _ (by omega), Int.tmod_lt_of_pos _ (by omega)⟩
theorem csum_bound (l : List UInt8) : 0 ≤ csum l ∧ csum l < 16777213 := csum_fold l 1 (by omega)
theorem u8_lt (b : UInt8) : (b.toNat : Int) ≤ 255 := by have := b.toNat_lt; omega
theorem u8_i64 (b : UInt8) : IntKind.i64.wrap (b.toNat : Int) = b.toNat := by
  have := u8_lt b
  exact IntWalk.i64_in _ (by omega)

theorem checksum_fn (bs : List UInt8) (hl : bs.length ≤ 100000) : FnS Try.prog 128 [Sl bs] (Va (csum bs)) := by
  refine spec_enter Try.func128 rfl Try.ntmps128 Try.call128 (by simp) fun C _ => ?_
  refine g_seq ?_
  refine gl_region ?_
  refine gl_op t_assign ?_
  refine gl_nil ?_
  refine g_seq ?_
  refine gl_region ?_
  refine gl_op t_assign ?_
  refine gl_nil ?_
  refine g_seq ?_
  refine g_seq ?_
  refine gl_region ?_
  refine gl_op t_move ?_
  refine gl_op t_len ?_
  refine gl_op t_move ?_
  refine gl_nil ?_
  refine g_block ?_
  refine g_loop (fun k : Nat => k ≤ bs.length) (fun k => [(8, Is (.int .i64 k)), (7, Is (.int .i64 bs.length)), (6, Sl bs), (3, Is (.int .i64 (csum (bs.take k))))]) (fun _ => []) (fun k => bs.length - k) (fun H => ?_) (fun k hk ih => ?_)
  · refine g_subF ?_ (H 0 (by simp))
    repeat (first | exact tf_nil | refine tf_cons (by first | exact ot_tmp rfl | exact ot_eq rfl (by first | (simp; done) | (congr 2; omega)) | exact ot_sub (ot_tmp rfl) sl_slf) ?_)
  · have hb := csum_bound (bs.take k)
    refine g_seq ?_
    refine gl_region ?_
    refine gl_op t_lss ?_
    refine gl_nil ?_
    refine g_seq ?_
    refine g_cond (ot_tmp rfl) (fun h => ?_) (fun h => ?_)
    · simp at h
      have hu := u8_lt (bs.getD k default)
      have hw := u8_i64 (bs.getD k default)
      refine g_skip ?_
      refine g_seq ?_
      refine g_block ?_
      refine g_seq ?_
      refine gl_region ?_
      refine gl_op t_index ?_
      refine gl_op t_load_one ?_
      refine gl_op t_assign ?_
      refine gl_nil ?_
      refine gl_region ?_
      refine gl_op t_move ?_
      refine gl_op t_mul ?_
      refine gl_op t_move ?_
      refine gl_op (t_conv_ii (hx := ot_tmp rfl) (a := ((bs.getD k default).toNat : Int)) (k := .i64)) ?_
      refine gl_op t_add ?_
      refine gl_op t_rem ?_
      refine gl_op t_assign ?_
      refine gl_nil ?_
      refine g_inBlock ?_
      refine gl_region ?_
      refine gl_op t_add ?_
      refine gl_op t_move ?_
      refine gl_nil ?_
      refine g_subF ?_ (ih (k + 1) (by omega) (by omega))
      repeat (first | exact tf_nil | refine tf_cons (by first | exact ot_tmp rfl | exact ot_eq rfl (by rw [hw, take_snoc h, csum_snoc])) ?_)
    · simp at h
      refine g_exit rfl ?_
      refine g_seq ?_
      refine gl_region ?_
      refine gl_op t_move ?_
      refine gl_op t_assign ?_
      refine gl_nil ?_
      refine g_ret Try.func128 () (res1e Try.results128 rfl ?_) (.inl rfl)
      rw [List.take_of_length_le (by omega)]
      rfl

theorem checksum_row (v : Value) (bs : List UInt8) (hl : bs.length ≤ 100000) : SpecR Try.prog 128 [Is v] [RowV v 5 bs] Unit (fun _ => Va (csum bs)) (fun _ => [RowV v 5 bs]) := by
  refine spec_enter Try.func128 rfl Try.ntmps128 Try.call128 (by simp) fun C _ => ?_
  refine g_seq ?_
  refine gl_region ?_
  refine gl_op t_assign ?_
  refine gl_nil ?_
  refine g_seq ?_
  refine gl_region ?_
  refine gl_op t_assign ?_
  refine gl_nil ?_
  refine g_seq ?_
  refine g_seq ?_
  refine gl_region ?_
  refine gl_op t_move ?_
  refine gl_op t_lenRow ?_
  refine gl_op t_move ?_
  refine gl_nil ?_
  refine g_block ?_
  refine g_loop (fun k : Nat => k ≤ bs.length) (fun k => [(8, Is (.int .i64 k)), (7, Is (.int .i64 bs.length)), (6, Is v), (3, Is (.int .i64 (csum (bs.take k))))]) (fun _ => [RowV v 5 bs]) (fun k => bs.length - k) (fun H => ?_) (fun k hk ih => ?_)
  · refine g_subF ?_ (H 0 (by simp))
    repeat (first | exact tf_nil | refine tf_cons (by first | exact ot_tmp rfl | exact ot_eq rfl (by first | (simp; done) | (congr 2; omega)) | exact ot_sub (ot_tmp rfl) sl_slf) ?_)
  · have hb := csum_bound (bs.take k)
    refine g_seq ?_
    refine gl_region ?_
    refine gl_op t_lss ?_
    refine gl_nil ?_
    refine g_seq ?_
    refine g_cond (ot_tmp rfl) (fun h => ?_) (fun h => ?_)
    · simp at h
      have hu := u8_lt (bs.getD k default)
      have hw := u8_i64 (bs.getD k default)
      refine g_skip ?_
      refine g_seq ?_
      refine g_block ?_
      refine g_seq ?_
      refine gl_region ?_
      refine gl_op t_indexRow ?_
      refine gl_op (t_loadRow (α := UInt8) (i := k)) ?_
      refine gl_op t_assign ?_
      refine gl_nil ?_
      refine gl_region ?_
      refine gl_op t_move ?_
      refine gl_op t_mul ?_
      refine gl_op t_move ?_
      refine gl_op (t_conv_ii (hx := ot_tmp rfl) (a := ((bs.getD k default).toNat : Int)) (k := .i64)) ?_
      refine gl_op t_add ?_
      refine gl_op t_rem ?_
      refine gl_op t_assign ?_
      refine gl_nil ?_
      refine g_inBlock ?_
      refine gl_region ?_
      refine gl_op t_add ?_
      refine gl_op t_move ?_
      refine gl_nil ?_
      refine g_subF ?_ (ih (k + 1) (by omega) (by omega))
      repeat (first | exact tf_nil | refine tf_cons (by first | exact ot_tmp rfl | exact ot_eq rfl (by rw [hw, take_snoc h, csum_snoc])) ?_)
    · simp at h
      refine g_exit rfl ?_
      refine g_seq ?_
      refine gl_region ?_
      refine gl_op t_move ?_
      refine gl_op t_assign ?_
      refine gl_nil ?_
      refine g_ret Try.func128 () (res1e Try.results128 rfl ?_) (.inl rfl)
      rw [List.take_of_length_le (by omega)]
      rfl

theorem summed_fn (v : Value) (bs : List UInt8) (hl : bs.length ≤ 90000) : SpecR Try.prog 59 [Is v] [RowV v 5 bs] Value Is (fun v' => [RowV v' 5 (bs ++ be4 (csum bs))]) := by
  refine spec_enter Try.func59 rfl Try.ntmps59 Try.call59 (by simp) fun C _ => ?_
  refine g_seq ?_
  refine gl_region ?_
  refine gl_op t_assign ?_
  refine gl_nil ?_
  refine g_seq ?_
  refine gl_region ?_
  refine gl_op t_move ?_
  refine gl_opM (m_callR1 (checksum_row v bs (by omega))) (fun _ => ?_)
  refine gl_op t_assign ?_
  refine gl_nil ?_
  refine g_seq ?_
  refine gl_region ?_
  refine gl_op t_move ?_
  refine gl_op t_move ?_
  refine gl_opM (m_callR1 (four_fn v bs (csum bs) (by omega))) (fun v1 => ?_)
  refine gl_op t_assign ?_
  refine gl_nil ?_
  exact g_ret Try.func59 v1 (res1 Try.results59 rfl) (.inl rfl)

end Go.Proofs.Ytkoinfegbkigcaa
