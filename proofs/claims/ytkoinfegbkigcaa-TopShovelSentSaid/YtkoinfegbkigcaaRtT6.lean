/- A part of the proof: contracts of functions of the program, each for the inputs that its premises name. -/
import Derived.Test.YtkoinfegbkigcaaRtT5
namespace Go.Proofs.Ytkoinfegbkigcaa
open Go.Rt
set_option maxHeartbeats 400000

theorem rds_sm {r : Run} (hr : RunOk r) : ∀ x ∈ rds r, SmpR x.n := by
  intro x hx
  simp only [rds, List.mem_map, List.mem_range] at hx
  obtain ⟨i, hi, rfl⟩ := hx
  split
  · unfold SmpR; simp
  · exact hr.sm _ (getD_mem hi)

theorem at_fn (r : Run) (hr : RunOk r) (place : Int) (k : Nat) (hp : place = r.first + k) (hk : k < r.xs.length) :
    FnS Try.prog 12 [Va r, Va place] (Tup [Va (smp ((rds r).getD k default).n), Va ((rds r).getD k default).known, Va (0 : Int)]) := by
  have hlen := hr.len
  have hf0 := hr.f0
  have hf1 := hr.f1
  have hrl := rds_len r
  have hsm : SmpR ((rds r).getD k default).n := rds_sm hr _ (getD_mem (by omega))
  refine spec_enter Try.func12 rfl Try.ntmps12 Try.call12 (by simp) fun C hX => ?_
  refine g_seq ?_
  refine gl_region ?_
  refine gl_op t_box ?_
  refine gl_op t_assign ?_
  refine gl_op t_assign ?_
  refine gl_op t_assign ?_
  refine gl_nil ?_
  refine g_seq ?_
  refine g_seq ?_
  refine gd_region 10 mixed (by kernel_rfl) ?_
  simp only [List.take_succ_cons, List.take_zero, List.drop_succ_cons, List.drop_zero]
  refine dl_op t_loadV ?_
  refine dl_op (t_call (checkRun_fn _ hr)) ?_
  refine dl_op t_move ?_
  refine dl_op t_field ?_
  refine dl_op t_load_one ?_
  refine dl_op t_lss ?_
  refine dl_op t_move ?_
  refine dl_guard (hop := fun _ => t_move) (h := ?_)
  refine dl_guard (hop := fun _ => t_loadV) (h := ?_)
  refine dl_guard (hop := fun _ => (t_call (end_fn r (by omega) (by omega)))) (h := ?_)
  refine dl_nil ?_
  refine gl_guard (hop := fun _ => t_geq) (h := ?_)
  refine gl_op t_pick_or ?_
  refine gl_op (t_call (when_fn _ _)) ?_
  refine gl_op (t_buildSlice (α := Int)) ?_
  refine gl_op (t_call (first_fn _)) ?_
  refine gl_op t_assign ?_
  refine gl_nil ?_
  refine g_seq ?_
  refine gl_region ?_
  refine gl_op t_move ?_
  refine gl_op t_neq ?_
  refine gl_nil ?_
  refine g_cond (ot_tmp rfl) (fun h => ?_) (fun _ => ?_)
  · simp [firstE] at h
    omega
  refine g_skip ?_
  refine g_seq ?_
  refine gd_regionS 9 [8] none [true, true, true, true, true, true, true, true, true] mixed (by kernel_rfl) (by kernel_rfl) ?_
  simp only [List.take_succ_cons, List.take_zero, List.drop_succ_cons, List.drop_zero]
  refine dq_op t_loadV ?_
  refine dq_op (t_call (readings_fz _ hr)) ?_
  refine dq_op t_move ?_
  refine dq_op t_field ?_
  refine dq_op t_load_one ?_
  refine dq_op t_sub ?_
  refine dq_op (t_index (m := k) (hm := by omega)) ?_
  refine dq_op t_load ?_
  refine dq_skip ?_
  refine dq_nil ?_
  refine sc_new rfl m_alloc rfl (fun bl => ?_)
  refine sc_nil ?_
  refine gl_opM0 m_store_agg (fun _ => ?_)
  refine gl_nil ?_
  refine g_seq ?_
  refine g_ent (e_cells (s := 8) rfl (by simp [hX, ids])) ?_
  refine gd_region 6 mixed (by kernel_rfl) ?_
  simp only [List.take_succ_cons, List.take_zero, List.drop_succ_cons, List.drop_zero]
  refine dl_op t_field ?_
  refine dl_op t_load_one ?_
  refine dl_op (t_call (sample_fn _ hsm)) ?_
  refine dl_op t_field ?_
  refine dl_op t_load_one ?_
  refine dl_op t_assign ?_
  refine dl_nil ?_
  refine gl_op t_assign ?_
  refine gl_op t_assign ?_
  refine gl_nil ?_
  exact g_ret Try.func12 () (res_three Try.results12 (rv_tmp rfl) (rv_tmp rfl) (rv_tmp rfl)) (.inl rfl)


/-- l with its first k and its last k elements changed about. -/
def Turned (l l' : List Reading) (k : Nat) : Prop := l'.length = l.length ∧ ∀ p, p < l.length → l'.getD p default = if p < k ∨ l.length - k ≤ p then l.getD (l.length - 1 - p) default else l.getD p default

theorem reverse_fn (l : List Reading) (v : Value) (hl : l.length ≤ 1000000) : SpecR Try.prog 72 [Is v] [RowV v 158 l] Unit (fun _ => anyTy) (fun _ => [RowV v 158 l.reverse]) := by
  refine spec_enter Try.func72 rfl Try.ntmps72 Try.call72 (by simp) fun C hX => ?_
  refine g_seq ?_
  refine gl_region ?_
  refine gl_op t_move ?_
  refine gl_op t_lenRow ?_
  refine gl_op t_sub ?_
  refine gl_op t_assign ?_
  refine gl_op t_assign ?_
  refine gl_nil ?_
  refine g_block ?_
  refine g_loop (fun q : Nat × List Reading => 2 * q.1 ≤ l.length + 1 ∧ Turned l q.2 q.1) (fun q => [(0, Is v), (2, Is (.int .i64 q.1)), (3, Is (.int .i64 ((l.length : Int) - 1 - q.1)))]) (fun q => [RowV v 158 q.2]) (fun q => l.length + 1 - q.1) (fun H => ?_) (fun q hq ih => ?_)
  · refine g_subF ?_ (H (0, l) ⟨by simp, rfl, fun p hp => by rw [if_neg (by omega)]⟩)
    repeat (first | exact tf_nil | refine tf_cons (by first | exact ot_tmp rfl | exact ot_eq rfl (by first | (simp; done) | (congr 2; omega)) | exact ot_sub (ot_tmp rfl) sl_slf) ?_)
  · obtain ⟨k, l'⟩ := q
    obtain ⟨hk, hl1, hl2⟩ := hq
    dsimp only at hk hl1 hl2 ih ⊢
    refine g_seq ?_
    refine g_seq ?_
    refine gl_region ?_
    refine gl_op t_move ?_
    refine gl_op t_move ?_
    refine gl_op t_lss ?_
    refine gl_nil ?_
    refine g_cond (ot_tmp rfl) (fun h => ?_) (fun h => ?_)
    · simp only [decide_eq_true_eq] at h
      refine g_skip ?_
      refine g_seq ?_
      refine g_block ?_
      refine gd_regionS 14 [13] (some 13) [true, true, false, false, true, true, true, true, true, true, true, true, true, false] mixed (by kernel_rfl) (by kernel_rfl) ?_
      simp only [List.take_succ_cons, List.take_zero, List.drop_succ_cons, List.drop_zero]
      refine dq_op t_move ?_
      refine dq_op t_move ?_
      refine dq_opU (fun _ => t_move) ?_
      refine dq_opU (fun _ => t_move) ?_
      refine dq_op t_move ?_
      refine dq_op t_move ?_
      refine dq_op (t_indexRow (n := (l.length : Int) - 1 - k) (m := l.length - 1 - k) (hm' := by omega)) ?_
      refine dq_op t_loadRow ?_
      refine dq_op t_move ?_
      refine dq_op t_move ?_
      refine dq_op t_indexRow ?_
      refine dq_op t_loadRow ?_
      refine dq_op t_indexRow ?_
      refine dq_skip0 ?_
      refine dq_nil ?_
      refine sc_brk rfl (m_storeRow (i := k) (a := l'.getD (l.length - 1 - k) default) (hy := oc_va (ot_tmp rfl))) rfl rfl ?_
      refine sc_nil ?_
      refine gl_op (t_indexRow (n := (l.length : Int) - 1 - k) (m := l.length - 1 - k) (h0 := by omega) (hn := by rw [List.length_set]; omega) (hm' := by omega)) ?_
      refine gl_opM0 (m_storeRow (i := l.length - 1 - k) (a := l'.getD k default) (hy := oc_va (ot_tmp rfl)) (hi := by rw [List.length_set]; omega)) (fun _ => ?_)
      refine gl_nil ?_
      refine g_inBlock ?_
      refine gl_region ?_
      refine gl_op t_move ?_
      refine gl_op t_add ?_
      refine gl_op t_move ?_
      refine gl_op t_sub ?_
      refine gl_op t_assign ?_
      refine gl_op t_assign ?_
      refine gl_nil ?_
      refine g_subF ?_ (ih (k + 1, (l'.set k (l'.getD (l.length - 1 - k) default)).set (l.length - 1 - k) (l'.getD k default)) ⟨by omega, by simp [hl1], fun p hp => ?_⟩ (by simp only []; omega))
      · repeat (first | exact tf_nil | refine tf_cons (by first | exact ot_tmp rfl | exact ot_eq rfl (by first | (simp; done) | (congr 2; omega)) | exact ot_sub (ot_tmp rfl) sl_slf) ?_)
      · dsimp only
        rw [getD_set _ _ _ _ (by rw [List.length_set]; omega), getD_set _ _ _ _ (by omega)]
        by_cases h1 : p = l.length - 1 - k
        · subst h1
          rw [if_pos rfl, if_pos (by omega), hl2 k (by omega), if_neg (by omega)]
          congr 1; omega
        · rw [if_neg h1]
          by_cases h2 : p = k
          · subst h2
            rw [if_pos rfl, if_pos (by omega), hl2 _ (by omega), if_neg (by omega)]
          · rw [if_neg h2, hl2 p hp]
            by_cases h3 : p < k ∨ l.length - k ≤ p
            · rw [if_pos h3, if_pos (by omega)]
            · rw [if_neg h3, if_neg (by omega)]
    · simp only [decide_eq_false_iff_not] at h
      refine g_exit rfl ?_
      have he : l' = l.reverse := by
        refine ext_getD (by simp [hl1]) fun p hp => ?_
        rw [hl2 p (by omega)]
        have e1 : l.reverse.getD p default = l.getD (l.length - 1 - p) default := by
          simp [List.getD, List.getElem?_reverse (show p < l.length by omega)]
        rw [e1]
        split
        · rfl
        · have : l.length - 1 - p = p := by omega
          rw [this]
      subst he
      exact g_fin Try.func72 () (res_zero Try.results72) (.inl rfl)

theorem reversed_fn (r : Run) (hr : RunOk r) : FnS Try.prog 14 [Va r] (Tup [Va (Run.mk r.name r.first ((rds r).reverse.map fun x => smp x.n) (holesOf (rds r).reverse)), Va (0 : Int)]) := by
  have hlen := hr.len
  have hrl := rds_len r
  refine spec_enter Try.func14 rfl Try.ntmps14 Try.call14 (by simp) fun C hX => ?_
  refine g_seq ?_
  refine gl_region ?_
  refine gl_op t_box ?_
  refine gl_opM m_alloc (fun bl => ?_)
  refine gl_op t_assign ?_
  refine gl_nil ?_
  refine g_seq ?_
  refine g_seq ?_
  refine gl_region ?_
  refine gl_op t_loadV ?_
  refine gl_op (t_call (checkRun_fn _ hr)) ?_
  refine gl_op t_assign ?_
  refine gl_nil ?_
  refine g_seq ?_
  refine gl_region ?_
  refine gl_op t_move ?_
  refine gl_op t_neq ?_
  refine gl_nil ?_
  refine g_cond (ot_tmp rfl) (fun h => ?_) (fun _ => ?_)
  · simp at h
  refine g_skip ?_
  refine g_seq ?_
  refine gl_region ?_
  refine gl_op t_loadV ?_
  refine gl_opM (m_callR (readings_fn _ hr)) (fun v => ?_)
  refine gl_op t_assign ?_
  refine gl_nil ?_
  refine g_seq ?_
  refine gl_region ?_
  refine gl_op t_move ?_
  refine gl_opM (m_callR1 (reverse_fn (rds r) v (by omega))) (fun _ => ?_)
  refine gl_nil ?_
  refine g_seq ?_
  refine gl_region ?_
  refine gl_op t_loadV ?_
  refine gl_op t_move ?_
  refine gl_ent (e_row (s := 17) rfl hX) ?_
  refine gl_op (t_call (with_fn _ _ (by rw [List.length_reverse]; omega) (fun x hx => rds_sm hr x (List.mem_reverse.1 hx)))) ?_
  refine gl_opM0 m_store_agg (fun _ => ?_)
  refine gl_op t_assign ?_
  refine gl_nil ?_
  refine g_ent (e_cells (s := 2) rfl (by simp [hX, ids])) ?_
  exact g_ret Try.func14 () (res_two Try.results14 (rv_va rfl) (rv_tmp rfl)) (.inl rfl)

end Go.Proofs.Ytkoinfegbkigcaa
