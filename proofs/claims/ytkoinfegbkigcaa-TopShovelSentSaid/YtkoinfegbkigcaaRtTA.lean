/- A part of the proof: contracts of functions of the program, each for the inputs that its premises name. -/
import Derived.Test.YtkoinfegbkigcaaRtT9
namespace Go.Proofs.Ytkoinfegbkigcaa
open Go.Rt
set_option maxHeartbeats 400000

theorem HolesOk.before {n : Int} : ∀ {l : List Span} {last : Int}, HolesOk n last l → ∀ k, k < l.length → 0 < k → (l.getD (k - 1) default).hi < (l.getD k default).lo
  | [], _, _, k, h, _ => by simp at h
  | [x], _, _, k, h, h0 => by simp at h; omega
  | x :: y :: l, last, hh, k, h, h0 => by
    obtain ⟨_, _, _, _, h5⟩ := hh
    obtain ⟨k, rfl⟩ : ∃ j, k = j + 1 := ⟨k - 1, by omega⟩
    cases k with
    | zero => exact h5.1
    | succ k => exact HolesOk.before h5 (k + 1) (by simpa using h) (by omega)

theorem rcheckHoles_fn (l : List Span) (n : Int) (hh : HolesOk n (-1) l) (hl : l.length ≤ 100000) : FnS Try.prog 101 [Sl l, Is (.int .i64 n)] (Va (0 : Int)) := by
  refine spec_enter Try.func101 rfl Try.ntmps101 Try.call101 (by simp) fun C _ => ?_
  refine g_seq ?_
  refine gl_region ?_
  refine gl_op t_assign ?_
  refine gl_nil ?_
  refine g_seq ?_
  refine g_seq ?_
  refine gl_region ?_
  refine gl_op t_assign ?_
  refine gl_nil ?_
  refine g_block ?_
  refine g_loop (fun k : Nat => k ≤ l.length) (fun k => [(5, Is (.int .i64 k)), (0, Sl l), (1, Is (.int .i64 n))]) (fun _ => []) (fun k => l.length - k) (fun H => ?_) (fun k hk ih => ?_)
  · refine g_subF ?_ (H 0 (by simp))
    repeat (first | exact tf_nil | refine tf_cons (by first | exact ot_tmp rfl | exact ot_eq rfl (by first | (simp; done) | (congr 2; omega)) | exact ot_sub (ot_tmp rfl) sl_slf) ?_)
  · refine g_seq ?_
    refine g_seq ?_
    refine gl_region ?_
    refine gl_op t_move ?_
    refine gl_op t_move ?_
    refine gl_op t_len ?_
    refine gl_op t_lss ?_
    refine gl_nil ?_
    refine g_cond (ot_tmp rfl) (fun h => ?_) (fun h => ?_)
    · simp at h
      obtain ⟨a2, a3, a4⟩ := hh.at _ (getD_mem h)
      have hb := hh.before k h
      refine g_skip ?_
      refine g_seq ?_
      refine g_block ?_
      refine g_seq ?_
      refine gd_region 21 mixed (by kernel_rfl) ?_
      simp only [List.take_succ_cons, List.take_zero, List.drop_succ_cons, List.drop_zero]
      refine dl_op t_move ?_
      refine dl_op t_move ?_
      refine dl_op (t_index (m := k) (hm := by omega)) ?_
      refine dl_op t_load ?_
      refine dl_op t_move ?_
      refine dl_op (t_call (checkFull_fn _ _ ⟨a2, a3, a4⟩)) ?_
      refine dl_op t_move ?_
      refine dl_op t_gtr ?_
      refine dl_op t_move ?_
      refine dl_guard (hop := fun _ => t_move) (h := ?_)
      refine dl_guard (hop := fun _ => t_move) (h := ?_)
      refine dl_guard (hop := fun _ => (t_index (m := k) (hm := by omega))) (h := ?_)
      refine dl_guard (hop := fun _ => t_field) (h := ?_)
      refine dl_guard (hop := fun _ => t_load_one) (h := ?_)
      refine dl_guard (hop := fun _ => t_move) (h := ?_)
      refine dl_guard (hop := fun _ => t_move) (h := ?_)
      refine dl_guard (hop := fun _ => t_sub) (h := ?_)
      refine dl_guard (hop := fun _ => (t_max)) (h := ?_)
      refine dl_guard (hop := fun _ => (t_index (hx := ot_when rfl (by assumption)) (hi := ot_when rfl (by assumption)) (h0 := by split <;> omega) (hn := by split <;> omega) (m := k - 1) (hm := by split <;> omega))) (h := ?_)
      refine dl_guard (hop := fun _ => t_field) (h := ?_)
      refine dl_guard (hop := fun _ => t_load_one) (h := ?_)
      refine dl_nil ?_
      refine gl_guard (hop := fun _ => t_leq) (h := ?_)
      refine gl_op t_pick_and ?_
      refine gl_op (t_call (rwhen_fn _ _)) ?_
      refine gl_op (t_buildSlice (α := Int)) ?_
      refine gl_op (t_call (rfirst_fn _)) ?_
      refine gl_op t_assign ?_
      refine gl_nil ?_
      refine g_seq ?_
      refine gl_region ?_
      refine gl_op t_move ?_
      refine gl_op t_neq ?_
      refine gl_nil ?_
      refine g_cond (ot_tmp rfl) (fun h3 => ?_) (fun h3 => ?_)
      · exfalso
        simp [firstE, -List.getD_eq_getElem?_getD] at h3
        omega
      · refine g_skip ?_
        refine g_inBlock ?_
        refine gl_region ?_
        refine gl_op t_move ?_
        refine gl_op t_add ?_
        refine gl_op t_assign ?_
        refine gl_nil ?_
        refine g_subF ?_ (ih (k + 1) (by omega) (by omega))
        repeat (first | exact tf_nil | refine tf_cons (by first | exact ot_tmp rfl | exact ot_eq rfl (by first | (simp; done) | (congr 2; omega)) | exact ot_sub (ot_tmp rfl) sl_slf) ?_)
    · refine g_exit rfl ?_
      refine g_seq ?_
      refine gl_region ?_
      refine gl_op t_assign ?_
      refine gl_nil ?_
      exact g_ret Try.func101 () (res1e Try.results101 rfl rfl) (.inl rfl)

theorem own_fn (r : Run) (h1 : r.xs.length ≤ 100000) (h2 : r.hs.length ≤ 100000) : FnS Try.prog 13 [Va r] (Va r) := by
  refine spec_enter Try.func13 rfl Try.ntmps13 Try.call13 (by simp) fun C hX => ?_
  refine g_seq ?_
  refine gl_region ?_
  refine gl_op t_box ?_
  refine gl_opM m_alloc (fun bl => ?_)
  refine gl_nil ?_
  refine g_seq ?_
  refine gd_region 12 mixed (by kernel_rfl) ?_
  simp only [List.take_succ_cons, List.take_zero, List.drop_succ_cons, List.drop_zero]
  refine dl_op t_field ?_
  refine dl_op t_load_one ?_
  refine dl_op t_field ?_
  refine dl_op t_load_one ?_
  refine dl_op (t_buildSlice (α := F32) (xs := [])) ?_
  refine dl_op t_field ?_
  refine dl_op t_load_one ?_
  refine dl_op (t_append_full (α := F32)) ?_
  refine dl_op (t_buildSlice (α := Span) (xs := [])) ?_
  refine dl_op t_field ?_
  refine dl_op t_load_one ?_
  refine dl_op (t_append_full (α := Span)) ?_
  refine dl_nil ?_
  refine gl_op t_build ?_
  refine gl_opM0 m_store_agg (fun _ => ?_)
  refine gl_nil ?_
  refine g_ent (e_cells (s := 2) rfl (by simp [hX, ids])) ?_
  exact g_ret Try.func13 () (res_one Try.results13 (rv_va rfl)) (.inl rfl)


theorem nz_inHole {r : Run} (hr : RunOk r) {i : Nat} (h : i < r.xs.length) (hin : inHole r.hs i = true) : fcmp .neq .f32 (r.xs.getD i default).bits 0 = false := by
  unfold inHole at hin
  rw [List.any_eq_true] at hin
  obtain ⟨s, hs, hd⟩ := hin
  simp only [decide_eq_true_eq] at hd
  obtain ⟨a2, a3, a4⟩ := hr.holes.at s hs
  have hg := hr.good _ (getD_mem h)
  have hz := hr.zero s hs (r.xs.getD i default) (by
    have hl : i - s.lo.toNat < ((r.xs.take s.hi.toNat).drop s.lo.toNat).length := by simp; omega
    have : ((r.xs.take s.hi.toNat).drop s.lo.toNat)[i - s.lo.toNat]'hl = r.xs.getD i default := by
      simp only [List.getElem_drop, List.getElem_take, List.getD]
      rw [List.getElem?_eq_getElem h]
      simp only [Option.getD_some]
      congr 1
      omega
    rw [← this]
    exact List.getElem_mem hl)
  unfold F32.val at hz
  rw [hg.f.nz, hz]
  rfl

theorem rcheckRun_fn (r : Run) (hr : RunOk r) : FnS Try.prog 31 [Va r] (Va (0 : Int)) := by
  have hlen := hr.len
  have hf0 := hr.f0
  have hf1 := hr.f1
  have hhl := hr.hlen
  refine spec_enter Try.func31 rfl Try.ntmps31 Try.call31 (by simp) fun C hX => ?_
  refine g_seq ?_
  refine gl_region ?_
  refine gl_op t_box ?_
  refine gl_op t_assign ?_
  refine gl_nil ?_
  refine g_seq ?_
  refine g_seq ?_
  refine gd_region 16 mixed (by kernel_rfl) ?_
  simp only [List.take_succ_cons, List.take_zero, List.drop_succ_cons, List.drop_zero]
  refine dl_op t_field ?_
  refine dl_op t_load_one ?_
  refine dl_op (t_call (checkName_fn _ hr.name)) ?_
  refine dl_op t_field ?_
  refine dl_op t_load_one ?_
  refine dl_op (t_call (range_fn _ _ _)) ?_
  refine dl_op t_field ?_
  refine dl_op t_load_one ?_
  refine dl_op (t_call (checkList_fn _ hr.good hr.len)) ?_
  refine dl_op t_field ?_
  refine dl_op t_load_one ?_
  refine dl_op t_field ?_
  refine dl_op t_load_one ?_
  refine dl_op t_len ?_
  refine dl_op t_sub ?_
  refine dl_op t_gtr ?_
  refine dl_nil ?_
  refine gl_op t_move ?_
  refine gl_guard (hop := fun _ => t_field) (h := ?_)
  refine gl_guard (hop := fun _ => t_load_one) (h := ?_)
  refine gl_guard (hop := fun _ => t_len) (h := ?_)
  refine gl_guard (hop := fun _ => t_leq) (h := ?_)
  refine gl_op t_pick_and ?_
  refine gl_op (t_call (rwhen_fn _ _)) ?_
  refine gl_op (t_buildSlice (α := Int)) ?_
  refine gl_op (t_call (rfirst_fn _)) ?_
  refine gl_op t_assign ?_
  refine gl_nil ?_
  refine g_seq ?_
  refine gl_region ?_
  refine gl_op t_move ?_
  refine gl_op t_neq ?_
  refine gl_nil ?_
  refine g_cond (ot_tmp rfl) (fun h3 => ?_) (fun _ => ?_)
  · exfalso
    simp [firstE] at h3
    omega
  refine g_skip ?_
  refine g_seq ?_
  refine g_seq ?_
  refine gl_region ?_
  refine gl_op t_field ?_
  refine gl_op t_load_one ?_
  refine gl_op t_field ?_
  refine gl_op t_load_one ?_
  refine gl_op t_len ?_
  refine gl_op (t_call (rcheckHoles_fn _ _ hr.holes hhl)) ?_
  refine gl_op t_assign ?_
  refine gl_nil ?_
  refine g_seq ?_
  refine gl_region ?_
  refine gl_op t_move ?_
  refine gl_op t_neq ?_
  refine gl_nil ?_
  refine g_cond (ot_tmp rfl) (fun h3 => by simp at h3) (fun _ => ?_)
  refine g_skip ?_
  refine g_seq ?_
  refine g_seq ?_
  refine gl_region ?_
  refine gl_op t_assign ?_
  refine gl_nil ?_
  refine g_block ?_
  refine g_loop (fun k : Nat => k ≤ r.xs.length) (fun k => [(5, Is (.int .i64 k)), (1, PtrTo (Enc.ty r))]) (fun _ => []) (fun k => r.xs.length - k) (fun H => ?_) (fun k hk ih => ?_)
  · refine g_subF ?_ (H 0 (by simp))
    repeat (first | exact tf_nil | refine tf_cons (by first | exact ot_tmp rfl | exact ot_eq rfl (by first | (simp; done) | (congr 2; omega)) | exact ot_sub (ot_tmp rfl) sl_slf) ?_)
  · refine g_seq ?_
    refine g_seq ?_
    refine gl_region ?_
    refine gl_op t_move ?_
    refine gl_op t_field ?_
    refine gl_op t_load_one ?_
    refine gl_op t_len ?_
    refine gl_op t_lss ?_
    refine gl_nil ?_
    refine g_cond (ot_tmp rfl) (fun h => ?_) (fun h => ?_)
    · simp at h
      refine g_skip ?_
      refine g_seq ?_
      refine g_block ?_
      refine g_seq ?_
      refine gl_region ?_
      refine gl_op t_field ?_
      refine gl_op t_load_one ?_
      refine gl_op t_move ?_
      refine gl_op t_index ?_
      refine gl_op t_load_one ?_
      refine gl_op (t_fcmp) ?_
      refine gl_op t_move ?_
      refine gl_guard (hop := fun _ => (t_loadV (x := r))) (h := ?_)
      refine gl_guard (hop := fun _ => t_move) (h := ?_)
      refine gl_guard (hop := fun _ => (t_call (isKnown_fn r k (by omega)))) (h := ?_)
      refine gl_guard (hop := fun _ => (t_not (hx := ot_when rfl (by assumption)))) (h := ?_)
      refine gl_op t_pick_and ?_
      refine gl_nil ?_
      refine g_cond (ot_tmp rfl) (fun h3 => ?_) (fun h3 => ?_)
      · exfalso
        simp only [Bool.and_eq_true, Bool.not_not] at h3
        rw [nz_inHole hr h h3.2] at h3
        simp at h3
      · refine g_skip ?_
        refine g_inBlock ?_
        refine gl_region ?_
        refine gl_op t_move ?_
        refine gl_op t_add ?_
        refine gl_op t_assign ?_
        refine gl_nil ?_
        refine g_subF ?_ (ih (k + 1) (by omega) (by omega))
        repeat (first | exact tf_nil | refine tf_cons (by first | exact ot_tmp rfl | exact ot_eq rfl (by first | (simp; done) | (congr 2; omega)) | exact ot_sub (ot_tmp rfl) sl_slf) ?_)
    · refine g_exit rfl ?_
      refine g_seq ?_
      refine gl_region ?_
      refine gl_op t_assign ?_
      refine gl_nil ?_
      exact g_ret Try.func31 () (res1e Try.results31 rfl rfl) (.inl rfl)

end Go.Proofs.Ytkoinfegbkigcaa
