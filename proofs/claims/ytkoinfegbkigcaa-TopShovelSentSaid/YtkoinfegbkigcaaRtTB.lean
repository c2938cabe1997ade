/- A part of the proof: contracts of functions of the program, each for the inputs that its premises name. -/
import Derived.Test.YtkoinfegbkigcaaRtTA
import Derived.Laws.StructEq
namespace Go.Proofs.Ytkoinfegbkigcaa
open Go.Rt
set_option maxHeartbeats 400000

theorem fields101 : Try.prog.fieldsOf 101 = #[{ name := "From", type := 3, offset := 0, embedded := false, tag := "", pkgPath := "", byteOffset := 0 }, { name := "To", type := 3, offset := 1, embedded := false, tag := "", pkgPath := "", byteOffset := 8 }] := by
  simp [Program.fieldsOf, Try.underlying101]

theorem span_eq (a b c d : Int) (w : World) : (Op.equalIn 10000 101 (.agg #[.int .i64 a, .int .i64 b]) (.agg #[.int .i64 c, .int .i64 d])).run Try.prog w = .ok ((a == c) && (b == d)) w := by
  rw [run_equalIn_struct w 9999 101 _ _ (by kernel_rfl) (by kernel_rfl), fields101]
  have hg : ∀ w, (isAgg 3).run Try.prog w = .ok false w := fun w => AggT.h w
  have he : ∀ w a b, (Op.equalIn 9999 3 (.int .i64 a) (.int .i64 b)).run Try.prog w = .ok (a == b) w := fun w a b => run_equalIn_int w 9998 3 .i64 .i64 a b (UndT.h (P := Try.prog) (t := 3))
  simp only [Op.eqFields, Sem.run_bind, Sem.run_ite, part, hg, Result.andThen_ok]
  simp [he]
  cases h : (a == c) <;> simp_all
  split <;> simp_all

theorem span_agg {s : Span} {v : Value} {V : View} (h : (Va s).p v V) : v = .agg #[.int .i64 s.lo, .int .i64 s.hi] := by
  obtain ⟨cs, rfl, h2, h3⟩ := h
  obtain ⟨c0, e0, f0⟩ := h3 0 _ rfl
  obtain ⟨c1, e1, f1⟩ := h3 1 _ rfl
  have f0' : c0 = .int .i64 s.lo := f0
  have f1' : c1 = .int .i64 s.hi := f1
  subst f0'; subst f1'
  congr 1
  apply Array.ext'
  apply List.ext_getElem?
  intro i
  match i with
  | 0 => simpa using e0
  | 1 => simpa using e1
  | i + 2 =>
    have : cs.size = 2 := h2
    simp [this]

theorem t_spanNe {F : List (Nat × Ty)} {M : List Res} {o : Oper} {x y : Operand} {s s' : Span} (ho : o.op = .binOp .neq 101 x y 101 := by rfl) (hx : OT F x (Va s) := by exact ot_tmp rfl) (hy : OT F y (Va s') := by exact ot_tmp rfl) : OpT Try.prog F M o (Is (.bool (!decide (s = s')))) :=
  opT_val fun tm V w hf _ _ => by
    have h1 := span_agg (hx.h tm V (hf _ (by simp [ho, Op.operands])))
    have h2 := span_agg (hy.h tm V (hf _ (by simp [ho, Op.operands])))
    refine ⟨_, ?_, rfl⟩
    have hq := run_eqGuard_agg (P := Try.prog) w .neq 101 x y #[.int .i64 s.lo, .int .i64 s.hi] #[.int .i64 s'.lo, .int .i64 s'.hi] (by kernel_rfl)
    have e : decide (s = s') = ((s.lo == s'.lo) && (s.hi == s'.hi)) := by
      cases s; cases s'; simp [Bool.decide_and, Bool.beq_eq_decide_eq]
    simp [execOp, ho, h1, h2, hq, run_neq_struct, span_eq, e]

theorem sameInts_fn (xs : List Int) : FnS Try.prog 15 [Sl xs, Sl xs] (Va true) := by
  refine spec_enter Try.func15 rfl Try.ntmps15 Try.call15 (by simp) fun C _ => ?_
  refine g_fact (s := 0) rfl sl_len fun hlen => ?_
  refine g_seq ?_
  refine gl_region ?_
  refine gl_op t_assign ?_
  refine gl_nil ?_
  refine g_seq ?_
  refine g_seq ?_
  refine gl_region ?_
  refine gl_op t_move ?_
  refine gl_op t_len ?_
  refine gl_op t_move ?_
  refine gl_op t_len ?_
  refine gl_op t_neq ?_
  refine gl_nil ?_
  refine g_cond (ot_tmp rfl) (fun h => by simp at h) (fun _ => ?_)
  refine g_skip ?_
  refine g_seq ?_
  refine g_seq ?_
  refine gl_region ?_
  refine gl_op t_assign ?_
  refine gl_nil ?_
  refine g_block ?_
  refine g_loop (fun k : Nat => k ≤ xs.length) (fun k => [(5, Is (.int .i64 k)), (0, Sl xs), (1, Sl xs)]) (fun _ => []) (fun k => xs.length - k) (fun H => ?_) (fun k hk ih => ?_)
  · refine g_subF ?_ (H 0 (by simp))
    repeat (first | exact tf_nil | refine tf_cons (by first | exact ot_tmp rfl | exact ot_eq rfl (by first | (simp; done) | (congr 2; omega)) | exact ot_sub (ot_tmp rfl) sl_slf) ?_)
  · refine g_seq ?_
    refine g_seq ?_
    refine gl_region ?_
    refine gl_op t_move ?_
    refine gl_op t_move ?_
    refine gl_op t_len ?_
    refine gl_op t_lss ?_
    refine gl_nil ?_
    refine g_cond (ot_tmp rfl) (fun h => ?_) (fun h => ?_)
    · simp at h
      refine g_skip ?_
      refine g_seq ?_
      refine g_block ?_
      refine g_seq ?_
      refine gd_region 8 mixed (by kernel_rfl) ?_
      simp only [List.take_succ_cons, List.take_zero, List.drop_succ_cons, List.drop_zero]
      refine dl_op t_move ?_
      refine dl_op t_move ?_
      refine dl_op t_index ?_
      refine dl_op t_load_one ?_
      refine dl_op t_move ?_
      refine dl_op t_move ?_
      refine dl_op t_index ?_
      refine dl_op t_load_one ?_
      refine dl_nil ?_
      refine gl_op t_neq ?_
      refine gl_nil ?_
      refine g_cond (ot_tmp rfl) (fun h3 => by simp at h3) (fun h3 => ?_)
      refine g_skip ?_
      refine g_inBlock ?_
      refine gl_region ?_
      refine gl_op t_move ?_
      refine gl_op t_add ?_
      refine gl_op t_assign ?_
      refine gl_nil ?_
      refine g_subF ?_ (ih (k + 1) (by omega) (by omega))
      repeat (first | exact tf_nil | refine tf_cons (by first | exact ot_tmp rfl | exact ot_eq rfl (by first | (simp; done) | (congr 2; omega)) | exact ot_sub (ot_tmp rfl) sl_slf) ?_)
    · refine g_exit rfl ?_
      refine g_seq ?_
      refine gl_region ?_
      refine gl_op t_assign ?_
      refine gl_nil ?_
      exact g_ret Try.func15 () (res1e Try.results15 rfl rfl) (.inl rfl)

theorem sameSamples_fn (xs : List F32) (hg : ∀ x ∈ xs, Good x) : FnS Try.prog 16 [Sl xs, Sl xs] (Va true) := by
  refine spec_enter Try.func16 rfl Try.ntmps16 Try.call16 (by simp) fun C _ => ?_
  refine g_fact (s := 0) rfl sl_len fun hlen => ?_
  refine g_seq ?_
  refine gl_region ?_
  refine gl_op t_assign ?_
  refine gl_nil ?_
  refine g_seq ?_
  refine g_seq ?_
  refine gl_region ?_
  refine gl_op t_move ?_
  refine gl_op t_len ?_
  refine gl_op t_move ?_
  refine gl_op t_len ?_
  refine gl_op t_neq ?_
  refine gl_nil ?_
  refine g_cond (ot_tmp rfl) (fun h => by simp at h) (fun _ => ?_)
  refine g_skip ?_
  refine g_seq ?_
  refine g_seq ?_
  refine gl_region ?_
  refine gl_op t_assign ?_
  refine gl_nil ?_
  refine g_block ?_
  refine g_loop (fun k : Nat => k ≤ xs.length) (fun k => [(5, Is (.int .i64 k)), (0, Sl xs), (1, Sl xs)]) (fun _ => []) (fun k => xs.length - k) (fun H => ?_) (fun k hk ih => ?_)
  · refine g_subF ?_ (H 0 (by simp))
    repeat (first | exact tf_nil | refine tf_cons (by first | exact ot_tmp rfl | exact ot_eq rfl (by first | (simp; done) | (congr 2; omega)) | exact ot_sub (ot_tmp rfl) sl_slf) ?_)
  · refine g_seq ?_
    refine g_seq ?_
    refine gl_region ?_
    refine gl_op t_move ?_
    refine gl_op t_move ?_
    refine gl_op t_len ?_
    refine gl_op t_lss ?_
    refine gl_nil ?_
    refine g_cond (ot_tmp rfl) (fun h => ?_) (fun h => ?_)
    · simp at h
      have hgk := (hg _ (getD_mem h)).f.irr
      refine g_skip ?_
      refine g_seq ?_
      refine g_block ?_
      refine g_seq ?_
      refine gd_region 8 mixed (by kernel_rfl) ?_
      simp only [List.take_succ_cons, List.take_zero, List.drop_succ_cons, List.drop_zero]
      refine dl_op t_move ?_
      refine dl_op t_move ?_
      refine dl_op t_index ?_
      refine dl_op t_load_one ?_
      refine dl_op t_move ?_
      refine dl_op t_move ?_
      refine dl_op t_index ?_
      refine dl_op t_load_one ?_
      refine dl_nil ?_
      refine gl_op (t_fcmp) ?_
      refine gl_nil ?_
      refine g_cond (ot_tmp rfl) (fun h3 => by rw [hgk] at h3; cases h3) (fun h3 => ?_)
      refine g_skip ?_
      refine g_inBlock ?_
      refine gl_region ?_
      refine gl_op t_move ?_
      refine gl_op t_add ?_
      refine gl_op t_assign ?_
      refine gl_nil ?_
      refine g_subF ?_ (ih (k + 1) (by omega) (by omega))
      repeat (first | exact tf_nil | refine tf_cons (by first | exact ot_tmp rfl | exact ot_eq rfl (by first | (simp; done) | (congr 2; omega)) | exact ot_sub (ot_tmp rfl) sl_slf) ?_)
    · refine g_exit rfl ?_
      refine g_seq ?_
      refine gl_region ?_
      refine gl_op t_assign ?_
      refine gl_nil ?_
      exact g_ret Try.func16 () (res1e Try.results16 rfl rfl) (.inl rfl)

theorem sameSpans_fn (xs : List Span) : FnS Try.prog 17 [Sl xs, Sl xs] (Va true) := by
  refine spec_enter Try.func17 rfl Try.ntmps17 Try.call17 (by simp) fun C _ => ?_
  refine g_fact (s := 0) rfl sl_len fun hlen => ?_
  refine g_seq ?_
  refine gl_region ?_
  refine gl_op t_assign ?_
  refine gl_nil ?_
  refine g_seq ?_
  refine g_seq ?_
  refine gl_region ?_
  refine gl_op t_move ?_
  refine gl_op t_len ?_
  refine gl_op t_move ?_
  refine gl_op t_len ?_
  refine gl_op t_neq ?_
  refine gl_nil ?_
  refine g_cond (ot_tmp rfl) (fun h => by simp at h) (fun _ => ?_)
  refine g_skip ?_
  refine g_seq ?_
  refine g_seq ?_
  refine gl_region ?_
  refine gl_op t_assign ?_
  refine gl_nil ?_
  refine g_block ?_
  refine g_loop (fun k : Nat => k ≤ xs.length) (fun k => [(5, Is (.int .i64 k)), (0, Sl xs), (1, Sl xs)]) (fun _ => []) (fun k => xs.length - k) (fun H => ?_) (fun k hk ih => ?_)
  · refine g_subF ?_ (H 0 (by simp))
    repeat (first | exact tf_nil | refine tf_cons (by first | exact ot_tmp rfl | exact ot_eq rfl (by first | (simp; done) | (congr 2; omega)) | exact ot_sub (ot_tmp rfl) sl_slf) ?_)
  · refine g_seq ?_
    refine g_seq ?_
    refine gl_region ?_
    refine gl_op t_move ?_
    refine gl_op t_move ?_
    refine gl_op t_len ?_
    refine gl_op t_lss ?_
    refine gl_nil ?_
    refine g_cond (ot_tmp rfl) (fun h => ?_) (fun h => ?_)
    · simp at h
      refine g_skip ?_
      refine g_seq ?_
      refine g_block ?_
      refine g_seq ?_
      refine gd_region 8 mixed (by kernel_rfl) ?_
      simp only [List.take_succ_cons, List.take_zero, List.drop_succ_cons, List.drop_zero]
      refine dl_op t_move ?_
      refine dl_op t_move ?_
      refine dl_op t_index ?_
      refine dl_op t_load ?_
      refine dl_op t_move ?_
      refine dl_op t_move ?_
      refine dl_op t_index ?_
      refine dl_op t_load ?_
      refine dl_nil ?_
      refine gl_op t_spanNe ?_
      refine gl_nil ?_
      refine g_cond (ot_tmp rfl) (fun h3 => by simp at h3) (fun h3 => ?_)
      refine g_skip ?_
      refine g_inBlock ?_
      refine gl_region ?_
      refine gl_op t_move ?_
      refine gl_op t_add ?_
      refine gl_op t_assign ?_
      refine gl_nil ?_
      refine g_subF ?_ (ih (k + 1) (by omega) (by omega))
      repeat (first | exact tf_nil | refine tf_cons (by first | exact ot_tmp rfl | exact ot_eq rfl (by first | (simp; done) | (congr 2; omega)) | exact ot_sub (ot_tmp rfl) sl_slf) ?_)
    · refine g_exit rfl ?_
      refine g_seq ?_
      refine gl_region ?_
      refine gl_op t_assign ?_
      refine gl_nil ?_
      exact g_ret Try.func17 () (res1e Try.results17 rfl rfl) (.inl rfl)

end Go.Proofs.Ytkoinfegbkigcaa
