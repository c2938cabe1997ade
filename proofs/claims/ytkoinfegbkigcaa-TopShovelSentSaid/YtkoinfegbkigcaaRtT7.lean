/- A part of the proof: contracts of functions of the program, each for the inputs that its premises name. -/
import Derived.Test.YtkoinfegbkigcaaRtT6
namespace Go.Proofs.Ytkoinfegbkigcaa
open Go.Rt
set_option maxHeartbeats 400000

/-- The readings of two runs, joined. -/
def jr (a b : Run) : List Reading := rds a ++ List.replicate (b.first - (a.first + a.xs.length)).toNat ⟨0, false⟩ ++ rds b

theorem joined_fn (a b : Run) (ha : RunOk a) (hb : RunOk b) (h1 : a.first + a.xs.length ≤ b.first) (h2 : b.first + b.xs.length - a.first ≤ 4096) (hne : b.xs ≠ []) :
    FnS Try.prog 53 [Va a, Va b] (Tup [Va (Run.mk a.name a.first ((jr a b).map fun x => smp x.n) (holesOf (jr a b))), Va (0 : Int)]) := by
  have a1 := ha.len
  have a2 := ha.f0
  have a3 := ha.f1
  have a4 := rds_len a
  have b1 := hb.len
  have b2 := hb.f0
  have b3 := hb.f1
  have b4 := rds_len b
  have b5 := List.length_pos_iff.2 hne
  refine spec_enter Try.func53 rfl Try.ntmps53 Try.call53 (by simp) fun C hX => ?_
  refine g_seq ?_
  refine gl_region ?_
  refine gl_op t_box ?_
  refine gl_op t_box ?_
  refine gl_opM m_alloc (fun bl => ?_)
  refine gl_op t_assign ?_
  refine gl_nil ?_
  refine g_seq ?_
  refine g_seq ?_
  refine gd_region 3 mixed (by kernel_rfl) ?_
  simp only [List.take_succ_cons, List.take_zero, List.drop_succ_cons, List.drop_zero]
  refine dl_op t_loadV ?_
  refine dl_op (t_call (checkRun_fn _ ha)) ?_
  refine dl_op t_loadV ?_
  refine dl_nil ?_
  refine gl_op (t_call (checkRun_fn _ hb)) ?_
  refine gl_op (t_buildSlice (α := Int)) ?_
  refine gl_op (t_call (first_fn _)) ?_
  refine gl_op t_assign ?_
  refine gl_nil ?_
  refine g_seq ?_
  refine gl_region ?_
  refine gl_op t_move ?_
  refine gl_op t_neq ?_
  refine gl_nil ?_
  refine g_cond (ot_tmp rfl) (fun h => ?_) (fun _ => ?_)
  · simp [firstE] at h
  refine g_skip ?_
  refine g_seq ?_
  refine g_seq ?_
  refine gd_region 10 mixed (by kernel_rfl) ?_
  simp only [List.take_succ_cons, List.take_zero, List.drop_succ_cons, List.drop_zero]
  refine dl_op t_field ?_
  refine dl_op t_load_one ?_
  refine dl_op t_loadV ?_
  refine dl_op (t_call (end_fn a (by omega) (by omega))) ?_
  refine dl_op t_lss ?_
  refine dl_op (t_call (when_fn _ _)) ?_
  refine dl_op t_loadV ?_
  refine dl_op (t_call (end_fn b (by omega) (by omega))) ?_
  refine dl_op t_field ?_
  refine dl_op t_load_one ?_
  refine dl_nil ?_
  refine gl_op t_sub ?_
  refine gl_op t_gtr ?_
  refine gl_op (t_call (when_fn _ _)) ?_
  refine gl_op (t_buildSlice (α := Int)) ?_
  refine gl_op (t_call (first_fn _)) ?_
  refine gl_op t_assign ?_
  refine gl_nil ?_
  refine g_seq ?_
  refine gl_region ?_
  refine gl_op t_move ?_
  refine gl_op t_neq ?_
  refine gl_nil ?_
  refine g_cond (ot_tmp rfl) (fun h => ?_) (fun _ => ?_)
  · simp [firstE] at h
    omega
  refine g_skip ?_
  refine g_seq ?_
  refine gd_region 4 mixed (by kernel_rfl) ?_
  simp only [List.take_succ_cons, List.take_zero, List.drop_succ_cons, List.drop_zero]
  refine dl_op t_loadV ?_
  refine dl_op (t_call (end_fn b (by omega) (by omega))) ?_
  refine dl_op t_field ?_
  refine dl_op t_load_one ?_
  refine dl_nil ?_
  refine gl_op t_sub ?_
  refine gl_opM (m_make (α := Reading) ⟨0, false⟩) (fun v => ?_)
  refine gl_op t_assign ?_
  refine gl_nil ?_
  refine g_seq ?_
  refine gl_region ?_
  refine gl_op t_move ?_
  refine gl_op t_loadV ?_
  refine gl_op (t_call (readings_fz _ ha)) ?_
  have hN : (List.replicate (b.first + b.xs.length - a.first).toNat (Reading.mk 0 false)).length = (b.first + b.xs.length - a.first).toNat := by simp
  have hNne : List.replicate (b.first + b.xs.length - a.first).toNat (Reading.mk 0 false) ≠ [] := by
    intro e; rw [e] at hN; simp at hN; omega
  have hL1 : (rds a ++ List.replicate ((b.first + b.xs.length - a.first).toNat - (rds a).length) (Reading.mk 0 false)).length = (b.first + b.xs.length - a.first).toNat := by simp; omega
  refine gl_opM (m_copy (α := Reading) (v := v) (k := 0) (ys := rds a) (xs := List.replicate (b.first + b.xs.length - a.first).toNat (Reading.mk 0 false)) (xs' := rds a ++ List.replicate ((b.first + b.xs.length - a.first).toNat - (rds a).length) (Reading.mk 0 false)) (E := 158) (.inr ⟨rfl, ot_tmp rfl⟩) (hle := by omega) (hne := hNne) (hxs := by simp)) (fun _ => ?_)
  refine gl_nil ?_
  refine g_seq ?_
  have hne1 : rds a ++ List.replicate ((b.first + b.xs.length - a.first).toNat - (rds a).length) (Reading.mk 0 false) ≠ [] := by
    intro e; rw [e] at hL1; simp at hL1; omega
  refine gd_region 9 mixed (by kernel_rfl) ?_
  simp only [List.take_succ_cons, List.take_zero, List.drop_succ_cons, List.drop_zero]
  refine dl_op t_move ?_
  refine dl_op t_field ?_
  refine dl_op t_load_one ?_
  refine dl_op t_field ?_
  refine dl_op t_load_one ?_
  refine dl_op t_sub ?_
  refine dl_op (t_sliceRow_l (α := Reading) (v := v) (hm := .head _) (hne := hne1)) ?_
  refine dl_op t_loadV ?_
  refine dl_op (t_call (readings_fz _ hb)) ?_
  refine dl_nil ?_
  refine gl_opM (m_copy (α := Reading) (v := v) (k := (b.first - a.first).toNat) (ys := rds b) (xs := rds a ++ List.replicate ((b.first + b.xs.length - a.first).toNat - (rds a).length) (Reading.mk 0 false)) (xs' := jr a b) (E := 158) (.inl (ot_tmp rfl)) (hle := by omega) (hne := hne1) (hxs := ?_)) (fun _ => ?_)
  · unfold jr
    have e1 : (b.first - a.first).toNat = (rds a).length + (b.first - (a.first + a.xs.length)).toNat := by omega
    have e2 : (b.first - (a.first + a.xs.length)).toNat ≤ (b.first + b.xs.length - a.first).toNat - (rds a).length := by omega
    rw [e1, List.take_length_add_append, List.take_replicate, Nat.min_eq_left e2, List.drop_of_length_le (by rw [hL1]; omega), List.append_nil]
  refine gl_nil ?_
  refine g_seq ?_
  refine gl_region ?_
  refine gl_op t_loadV ?_
  refine gl_op t_move ?_
  refine gl_ent (e_row (s := 59) rfl hX) ?_
  have hjl : (jr a b).length ≤ 100000 := by unfold jr; simp; omega
  have hjs : ∀ x ∈ jr a b, SmpR x.n := by
    intro x hx
    unfold jr at hx
    simp only [List.mem_append, List.mem_replicate] at hx
    rcases hx with (hx | ⟨_, rfl⟩) | hx
    · exact rds_sm ha x hx
    · unfold SmpR; simp
    · exact rds_sm hb x hx
  refine gl_op (t_call (with_fn a (jr a b) hjl hjs)) ?_
  refine gl_opM0 m_store_agg (fun _ => ?_)
  refine gl_op t_assign ?_
  refine gl_nil ?_
  refine g_ent (e_cells (s := 4) rfl (by simp [hX, ids])) ?_
  exact g_ret Try.func53 () (res_two Try.results53 (rv_va rfl) (rv_tmp rfl)) (.inl rfl)

end Go.Proofs.Ytkoinfegbkigcaa
