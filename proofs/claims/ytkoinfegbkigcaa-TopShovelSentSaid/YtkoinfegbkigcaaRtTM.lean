/- A part of the proof: contracts of functions of the program, each for the inputs that its premises name. -/
import Derived.Test.YtkoinfegbkigcaaRtTL
namespace Go.Proofs.Ytkoinfegbkigcaa
open Go.Rt
set_option maxHeartbeats 400000

theorem received_fn (ps : List Packet) (hp : ∀ p ∈ ps, PktP p) (hl : ps.length ≤ 1000) : FnS Try.prog 10 [Sl (strm ps)] (Tup [Sl ps, Sl ([] : List Span), Va (0 : Int)]) := by
  have hsl := strm_len ps
  refine spec_enter Try.func10 rfl Try.ntmps10 Try.call10 (by simp) fun C hX => ?_
  refine g_seq ?_
  refine gl_region ?_
  refine gl_op t_assign ?_
  refine gl_op t_assign ?_
  refine gl_op t_assign ?_
  refine gl_nil ?_
  refine g_seq ?_
  refine g_seq ?_
  refine gl_region ?_
  refine gl_op t_move ?_
  refine gl_op t_len ?_
  refine gl_op t_gtr ?_
  refine gl_nil ?_
  refine g_cond (ot_tmp rfl) (fun h => ?_) (fun _ => ?_)
  · exfalso
    simp only [decide_eq_true_eq] at h
    omega
  refine g_skip ?_
  refine g_seq ?_
  refine gl_region ?_
  refine gl_opM m_alloc (fun bl => ?_)
  refine gl_nil ?_
  refine g_seq ?_
  refine gl_region ?_
  refine gl_opM m_alloc (fun bl => ?_)
  refine gl_nil ?_
  refine g_seq ?_
  refine g_seq ?_
  refine gl_region ?_
  refine gl_op t_move ?_
  refine gl_op (t_call (frames_fn _)) ?_
  refine gl_nil ?_
  refine g_block ?_
  rename_i b5
  revert bl; intro b6
  refine g_ent (e_nilrow (E := 35) (α := Packet)) ?_
  refine g_ent (e_nilrow (E := 101) (α := Span)) ?_
  refine g_rangeFunc (g := 129) (Cs := [PtrTo [Sl (strm ps)]]) (ps := [15, 16]) (N := ps.length) (A := frA ps) (Sb := fun k v => [RowV (.slice none 0 0) 101 ([] : List Span), RowV v 35 (ps.take k), Cells b6 26 [Is (.slice none 0 0)], Cells b5 43 [Is v]]) [] (.slice none 0 0) rfl rfl (ot_tmp rfl) (fun St => frames1_spec ps hp hl St _) (fun k hk => rfl) (by decide) (fun l c C' j v hj hX' => ?_) (fun r v => ?_)
  · simp only [putAll, frA]
    refine g_seq ?_
    refine gl_region ?_
    refine gl_op t_assign ?_
    refine gl_nil ?_
    refine gl_region ?_
    refine gl_op t_assign ?_
    refine gl_nil ?_
    refine g_beginRound (b := ⟨10, some l⟩) (l := l) rfl .head ?_
    refine g_block ?_
    refine g_seq ?_
    refine gl_region ?_
    refine gl_op t_loadM_one ?_
    refine gl_op t_lenRow ?_
    refine gl_op t_assign ?_
    refine gl_nil ?_
    refine g_block ?_
    refine g_seq ?_
    refine gl_region ?_
    refine gl_op t_move ?_
    refine gl_op (t_ptrNe) ?_
    refine gl_op t_assign ?_
    refine gl_nil ?_
    refine g_cond (ot_tmp rfl) (fun _ => ?_) (fun h => by cases h)
    refine gd_region 5 mixed (by kernel_rfl) ?_
    simp only [List.take_succ_cons, List.take_zero, List.drop_succ_cons, List.drop_zero]
    refine dl_op t_loadM_one ?_
    refine dl_op t_move ?_
    refine dl_op (t_nilCheck) ?_
    refine dl_op t_loadV ?_
    refine dl_op (t_buildSlice (α := Packet) (xs := [ps.getD j default])) ?_
    refine dl_nil ?_
    skip
    refine gl_opM m_append (fun v' => ?_)
    skip
    refine gl_opM0 (m_store_row (v := v') (E' := 35) (xs := ps.take j ++ [ps.getD j default]) (by simp)) (fun _ => ?_)
    refine gl_nil ?_
    refine g_inBlock ?_
    refine g_inBlock ?_
    rw [← take_snoc hj]
    exact g_endRound (b := ⟨10, some l⟩) (l := l) rfl v' .head
  · rw [List.nil_append]
    refine g_inBlock ?_
    refine g_seq ?_
    refine gd_region 3 mixed (by kernel_rfl) ?_
    simp only [List.take_succ_cons, List.take_zero, List.drop_succ_cons, List.drop_zero]
    refine dl_op t_loadM_one ?_
    refine dl_op t_loadM_one ?_
    refine dl_op t_assign ?_
    refine dl_nil ?_
    refine gl_op t_assign ?_
    refine gl_op t_assign ?_
    refine gl_nil ?_
    refine g_ent (e_row (s := 2) (E := 35) (xs := ps.take ps.length) rfl hX) ?_
    refine g_ent (e_row (s := 3) (E := 101) (xs := ([] : List Span)) rfl hX) ?_
    rw [List.take_length]
    exact g_retD Try.func10 () (res_three Try.results10 (rv_tmp rfl) (rv_tmp rfl) (rv_tmp rfl)) (.inr rfl)
end Go.Proofs.Ytkoinfegbkigcaa
