/- A part of the proof: contracts of functions of the program, each for the inputs that its premises name. -/
import Derived.Test.YtkoinfegbkigcaaRtT2
namespace Go.Proofs.Ytkoinfegbkigcaa
open Go.Rt
set_option maxHeartbeats 400000

instance : Nonempty {x : F32 // Good x} := ⟨⟨smp 0, smp_good (by unfold SmpR; omega)⟩⟩

theorem indexF32_fn (xs : List F32) (p : F32 → Bool) (hp : ∀ x ∈ xs, p x = false) : FnS Try.prog 228 [Sl xs, FnV Try.prog (ι := F32) (fun x => [Va x]) (fun x => Va (p x))] (Is (.int .i64 (-1))) := by
  refine spec_enter Try.func228 rfl Try.ntmps228 Try.call228 (by simp) fun C hX => ?_
  refine g_fact (s := 0) rfl sl_len fun hlen => ?_
  refine g_seq ?_
  refine gl_region ?_
  refine gl_op t_assign ?_
  refine gl_nil ?_
  refine g_seq ?_
  refine g_seq ?_
  refine gl_region ?_
  refine gl_op t_move ?_
  refine gl_op t_len ?_
  refine gl_op t_move ?_
  refine gl_nil ?_
  refine g_block ?_
  refine g_loop (fun k : Nat => k ≤ xs.length) (fun k => [(8, Is (.int .i64 k)), (7, Is (.int .i64 xs.length)), (0, Sl xs), (1, FnV Try.prog (ι := F32) (fun x => [Va x]) (fun x => Va (p x)))]) (fun _ => []) (fun k => xs.length - k) (fun H => ?_) (fun k hk ih => ?_)
  · refine g_subF ?_ (H 0 (by simp))
    repeat (first | exact tf_nil | refine tf_cons (by first | exact ot_tmp rfl | exact ot_eq rfl (by first | (simp; done) | (congr 2; omega)) | exact ot_sub (ot_tmp rfl) sl_slf) ?_)
  · refine g_seq ?_
    refine gl_region ?_
    refine gl_op t_lss ?_
    refine gl_nil ?_
    refine g_seq ?_
    refine g_cond (ot_tmp rfl) (fun h => ?_) (fun h => ?_)
    · simp at h
      have hx : p (xs.getD k default) = false := hp _ (getD_mem h)
      refine g_skip ?_
      refine g_seq ?_
      refine g_block ?_
      refine g_seq ?_
      refine gl_region ?_
      refine gl_op t_move ?_
      refine gl_op t_assign ?_
      refine gl_nil ?_
      refine g_seq ?_
      refine gl_region ?_
      refine gl_op t_move ?_
      refine gl_op t_move ?_
      refine gl_op t_move ?_
      refine gl_op t_index ?_
      refine gl_op t_load_one ?_
      refine gl_op (t_calldyn (xs.getD k default)) ?_
      refine gl_nil ?_
      refine g_cond (ot_tmp rfl) (fun h3 => ?_) (fun h3 => ?_)
      · rw [hx] at h3; cases h3
      · refine g_skip ?_
        refine g_inBlock ?_
        refine gl_region ?_
        refine gl_op t_add ?_
        refine gl_op t_move ?_
        refine gl_nil ?_
        refine g_subF ?_ (ih (k + 1) (by omega) (by omega))
        repeat (first | exact tf_nil | refine tf_cons (by first | exact ot_tmp rfl | exact ot_eq rfl (by first | (simp; done) | (congr 2; omega)) | exact ot_sub (ot_tmp rfl) sl_slf) ?_)
    · refine g_exit rfl ?_
      refine g_seq ?_
      refine gl_region ?_
      refine gl_op t_assign ?_
      refine gl_nil ?_
      exact g_ret Try.func228 () (res1e Try.results228 rfl rfl) (.inl rfl)

theorem containsF32_fn (xs : List F32) (p : F32 → Bool) (hp : ∀ x ∈ xs, p x = false) : FnS Try.prog 185 [Sl xs, FnV Try.prog (ι := F32) (fun x => [Va x]) (fun x => Va (p x))] (Is (.bool false)) := by
  refine spec_enter Try.func185 rfl Try.ntmps185 Try.call185 (by simp) fun C hX => ?_
  refine g_seq ?_
  refine gl_region ?_
  refine gl_op t_assign ?_
  refine gl_nil ?_
  refine g_seq ?_
  refine gl_region ?_
  refine gl_op t_move ?_
  refine gl_op t_move ?_
  refine gl_op (t_call (indexF32_fn _ _ hp)) ?_
  refine gl_op t_geq ?_
  refine gl_op t_assign ?_
  refine gl_nil ?_
  exact g_ret Try.func185 () (res1e Try.results185 rfl rfl) (.inl rfl)

def HolesOk (n : Int) : Int → List Span → Prop
  | _, [] => True
  | last, h :: l => last < h.lo ∧ 0 ≤ h.lo ∧ h.lo < h.hi ∧ h.hi ≤ n ∧ HolesOk n h.hi l

structure RunOk (r : Run) : Prop where
  name : NameOk r.name
  f0 : 0 ≤ r.first
  len : r.xs.length ≤ 4096
  f1 : r.first + r.xs.length ≤ 100000000
  good : ∀ x ∈ r.xs, Good x
  holes : HolesOk r.xs.length (-1) r.hs
  zero : ∀ h ∈ r.hs, ∀ x ∈ (r.xs.take h.hi.toNat).drop h.lo.toNat, x.val = 0
  hlen : r.hs.length ≤ 100000
  sm : ∀ x ∈ r.xs, SmpR x.val

theorem HolesOk.at {n : Int} : ∀ {last : Int} {l : List Span}, HolesOk n last l → ∀ h ∈ l, 0 ≤ h.lo ∧ h.lo < h.hi ∧ h.hi ≤ n
  | _, [], _, h, hm => by cases hm
  | last, x :: l, hh, h, hm => by
    obtain ⟨h1, h2, h3, h4, h5⟩ := hh
    rcases List.mem_cons.1 hm with rfl | hm
    · exact ⟨h2, h3, h4⟩
    · exact HolesOk.at h5 h hm

theorem HolesOk.step {n last : Int} {l : List Span} {k : Nat} (hk : k < l.length) (h : HolesOk n last (l.drop k)) :
    last < (l.getD k default).lo ∧ 0 ≤ (l.getD k default).lo ∧ (l.getD k default).lo < (l.getD k default).hi ∧ (l.getD k default).hi ≤ n ∧ HolesOk n (l.getD k default).hi (l.drop (k + 1)) := by
  rw [drop_cons hk] at h; exact h

theorem checkHoles_fn (r : Run) (hr : RunOk r) : FnS Try.prog 133 [Va r] (Va (0 : Int)) := by
  have hlen := hr.len
  have hhl := hr.hlen
  refine spec_enter Try.func133 rfl Try.ntmps133 Try.call133 (by simp) fun C hX => ?_
  refine g_seq ?_
  refine gl_region ?_
  refine gl_op t_box ?_
  refine gl_op t_assign ?_
  refine gl_nil ?_
  refine g_seq ?_
  refine gl_region ?_
  refine gl_op t_assign ?_
  refine gl_nil ?_
  refine g_seq ?_
  refine g_seq ?_
  refine gl_region ?_
  refine gl_op t_field ?_
  refine gl_op t_load_one ?_
  refine gl_op t_len ?_
  refine gl_op t_move ?_
  refine gl_nil ?_
  refine g_block ?_
  refine g_loop (fun p : Nat × Int => p.1 ≤ r.hs.length ∧ -1 ≤ p.2 ∧ HolesOk r.xs.length p.2 (r.hs.drop p.1)) (fun p => [(12, Is (.int .i64 p.1)), (11, Is (.int .i64 r.hs.length)), (10, Sl r.hs), (3, Is (.int .i64 p.2)), (1, PtrTo (Enc.ty r))]) (fun _ => []) (fun p => r.hs.length - p.1) (fun H => ?_) (fun p hp ih => ?_)
  · refine g_subF ?_ (H (0, -1) ⟨by simp, by simp, hr.holes⟩)
    repeat (first | exact tf_nil | refine tf_cons (by first | exact ot_tmp rfl | exact ot_eq rfl (by first | (simp; done) | (congr 2; omega)) | exact ot_sub (ot_tmp rfl) sl_slf) ?_)
  · obtain ⟨k, last⟩ := p
    obtain ⟨hk, hl1, hl2⟩ := hp
    dsimp only at hk hl1 hl2 ih ⊢
    refine g_seq ?_
    refine gl_region ?_
    refine gl_op t_lss ?_
    refine gl_nil ?_
    refine g_seq ?_
    refine g_cond (ot_tmp rfl) (fun h => ?_) (fun h => ?_)
    · simp at h
      obtain ⟨a1, a2, a3, a4, a5⟩ := HolesOk.step h hl2
      have e1 : ((k : Int)).toNat = k := by simp
      refine g_skip ?_
      refine g_seq ?_
      refine g_block ?_
      refine g_seq ?_
      refine gl_region ?_
      refine gl_op t_index ?_
      refine gl_op t_load ?_
      refine gl_opM m_alloc (fun bl => ?_)
      refine gl_opM0 m_store_agg (fun _ => ?_)
      refine gl_nil ?_
      refine g_seq ?_
      refine g_seq ?_
      refine g_ent (e_cells (s := 5) rfl (by simp [hX, ids])) ?_
      refine gd_region 23 mixed (by kernel_rfl) ?_
      simp only [List.take_succ_cons, List.take_zero, List.drop_succ_cons, List.drop_zero]
      refine dl_op t_field ?_
      refine dl_op t_load_one ?_
      refine dl_op t_lss ?_
      refine dl_op t_move ?_
      refine dl_guard (hop := fun _ => t_field) (h := ?_)
      refine dl_guard (hop := fun _ => t_load_one) (h := ?_)
      refine dl_guard (hop := fun _ => t_field) (h := ?_)
      refine dl_guard (hop := fun _ => t_load_one) (h := ?_)
      refine dl_guard (hop := fun _ => t_geq) (h := ?_)
      refine dl_op t_pick_or ?_
      refine dl_op t_move ?_
      refine dl_guard (hop := fun _ => t_field) (h := ?_)
      refine dl_guard (hop := fun _ => t_load_one) (h := ?_)
      refine dl_guard (hop := fun _ => t_field) (h := ?_)
      refine dl_guard (hop := fun _ => t_load_one) (h := ?_)
      refine dl_guard (hop := fun _ => t_len) (h := ?_)
      refine dl_guard (hop := fun _ => t_gtr) (h := ?_)
      refine dl_op t_pick_or ?_
      refine dl_op (t_call (when_fn _ _)) ?_
      refine dl_op t_field ?_
      refine dl_op t_load_one ?_
      refine dl_op t_move ?_
      refine dl_op t_leq ?_
      refine dl_nil ?_
      refine gl_op (t_call (when_fn _ _)) ?_
      refine gl_op (t_buildSlice (α := Int)) ?_
      refine gl_op (t_call (first_fn _)) ?_
      refine gl_op t_assign ?_
      refine gl_nil ?_
      refine g_seq ?_
      refine gl_region ?_
      refine gl_op t_move ?_
      refine gl_op t_neq ?_
      refine gl_nil ?_
      refine g_cond (ot_tmp rfl) (fun h3 => ?_) (fun _ => ?_)
      · simp [firstE, -List.getD_eq_getElem?_getD] at h3
        omega
      · refine g_skip ?_
        refine gl_region ?_
        refine gl_op t_field ?_
        refine gl_op t_load_one ?_
        refine gl_op t_assign ?_
        refine gl_nil ?_
        refine g_inBlock ?_
        refine gl_region ?_
        refine gl_op t_add ?_
        refine gl_op t_move ?_
        refine gl_nil ?_
        refine g_subF ?_ (ih (k + 1, (r.hs.getD k default).hi) ⟨by simp; omega, by simp only []; omega, a5⟩ (by simp; omega))
        repeat (first | exact tf_nil | refine tf_cons (by first | exact ot_tmp rfl | exact ot_eq rfl (by first | (simp; done) | (congr 2; omega)) | exact ot_sub (ot_tmp rfl) sl_slf) ?_)
    · refine g_exit rfl ?_
      refine g_seq ?_
      refine g_seq ?_
      refine gl_region ?_
      refine gl_op t_field ?_
      refine gl_op t_load_one ?_
      refine gl_op t_len ?_
      refine gl_op t_move ?_
      refine gl_nil ?_
      refine g_block ?_
      refine g_loop (fun k : Nat => k ≤ r.hs.length) (fun k => [(51, Is (.int .i64 k)), (50, Is (.int .i64 r.hs.length)), (49, Sl r.hs), (1, PtrTo (Enc.ty r))]) (fun _ => []) (fun k => r.hs.length - k) (fun H => ?_) (fun k hk ih => ?_)
      · refine g_subF ?_ (H 0 (by simp))
        repeat (first | exact tf_nil | refine tf_cons (by first | exact ot_tmp rfl | exact ot_eq rfl (by first | (simp; done) | (congr 2; omega)) | exact ot_sub (ot_tmp rfl) sl_slf) ?_)
      · refine g_seq ?_
        refine gl_region ?_
        refine gl_op t_lss ?_
        refine gl_nil ?_
        refine g_seq ?_
        refine g_cond (ot_tmp rfl) (fun h => ?_) (fun h => ?_)
        · simp at h
          obtain ⟨a2, a3, a4⟩ := hr.holes.at _ (getD_mem h)
          have hz : ∀ x ∈ (r.xs.take (r.hs.getD k default).hi.toNat).drop (r.hs.getD k default).lo.toNat, fcmp .neq .f32 x.bits 0 = false := by
            intro x hx
            have hg := hr.good x (List.mem_of_mem_take (List.mem_of_mem_drop hx))
            have h0 := hr.zero _ (getD_mem h) x hx
            rw [hg.f.nz]
            unfold F32.val at h0
            simp [h0]
          refine g_skip ?_
          refine g_seq ?_
          refine g_block ?_
          refine g_seq ?_
          refine gl_region ?_
          refine gl_op t_index ?_
          refine gl_op t_load ?_
          refine gl_opM m_alloc (fun bl => ?_)
          refine gl_opM0 m_store_agg (fun _ => ?_)
          refine gl_nil ?_
          refine g_seq ?_
          refine gl_region ?_
          refine gl_op t_field ?_
          refine gl_op t_load_one ?_
          refine gl_op t_fieldM ?_
          refine gl_op t_loadM_one ?_
          refine gl_op t_fieldM ?_
          refine gl_op t_loadM_one ?_
          refine gl_op t_slice_lh ?_
          refine gl_ent (e_cells (s := 8) rfl (by simp [hX, ids])) ?_
          refine gl_op (t_call (containsF32_fn _ _ hz) (hx := by exact ⟨ot_tmp rfl, ot_fn nz_fn, trivial⟩)) ?_
          refine gl_nil ?_
          refine g_cond (ot_tmp rfl) (fun h3 => by cases h3) (fun _ => ?_)
          refine g_skip ?_
          refine g_inBlock ?_
          refine gl_region ?_
          refine gl_op t_add ?_
          refine gl_op t_move ?_
          refine gl_nil ?_
          refine g_subF ?_ (ih (k + 1) (by omega) (by omega))
          repeat (first | exact tf_nil | refine tf_cons (by first | exact ot_tmp rfl | exact ot_eq rfl (by first | (simp; done) | (congr 2; omega)) | exact ot_sub (ot_tmp rfl) sl_slf) ?_)
        · refine g_exit rfl ?_
          refine g_seq ?_
          refine gl_region ?_
          refine gl_op t_assign ?_
          refine gl_nil ?_
          exact g_ret Try.func133 () (res1e Try.results133 rfl rfl) (.inl rfl)

theorem firstE_zero (l : List Int) (h : ∀ x ∈ l, x = 0) : firstE l = 0 := by
  induction l with
  | nil => rfl
  | cons a l ih => simp [firstE, h a (by simp), ih (fun x hx => h x (by simp [hx]))]

theorem checkRun_fn (r : Run) (hr : RunOk r) : FnS Try.prog 67 [Va r] (Va (0 : Int)) := by
  have hlen := hr.len
  have hf0 := hr.f0
  have hf1 := hr.f1
  refine spec_enter Try.func67 rfl Try.ntmps67 Try.call67 (by simp) fun C hX => ?_
  refine g_seq ?_
  refine gl_region ?_
  refine gl_op t_box ?_
  refine gl_op t_assign ?_
  refine gl_nil ?_
  refine g_seq ?_
  refine g_seq ?_
  refine gd_region 12 mixed (by kernel_rfl) ?_
  simp only [List.take_succ_cons, List.take_zero, List.drop_succ_cons, List.drop_zero]
  refine dl_op t_field ?_
  refine dl_op t_load_one ?_
  refine dl_op (t_call (isName_fn _ hr.name)) ?_
  refine dl_op t_not ?_
  refine dl_op (t_call (when_fn _ _)) ?_
  refine dl_op t_field ?_
  refine dl_op t_load_one ?_
  refine dl_op (t_call (within_fn _ _ _)) ?_
  refine dl_op t_field ?_
  refine dl_op t_load_one ?_
  refine dl_op t_len ?_
  refine dl_op t_gtr ?_
  refine dl_nil ?_
  refine gl_op (t_call (when_fn _ _)) ?_
  refine gl_op (t_buildSlice (α := Int)) ?_
  refine gl_op (t_call (first_fn _)) ?_
  refine gl_op t_assign ?_
  refine gl_nil ?_
  refine g_seq ?_
  refine gl_region ?_
  refine gl_op t_move ?_
  refine gl_op t_neq ?_
  refine gl_nil ?_
  refine g_cond (ot_tmp rfl) (fun h3 => ?_) (fun _ => ?_)
  · simp [firstE] at h3
    omega
  have h94 : ∀ x : {x : F32 // Good x}, FnS Try.prog 94 [Va x.1] (Va ((fun _ : F32 => (0 : Int)) x.1)) := fun x => checkSample_fn _ x.2
  refine g_skip ?_
  refine g_seq ?_
  refine g_seq ?_
  refine gd_region 11 mixed (by kernel_rfl) ?_
  simp only [List.take_succ_cons, List.take_zero, List.drop_succ_cons, List.drop_zero]
  refine dl_op t_field ?_
  refine dl_op t_load_one ?_
  refine dl_op (t_call (mapped126_fn r.xs Good (fun _ => 0) hr.good (by omega)) (hx := by exact ⟨ot_tmp rfl, ot_fn h94, trivial⟩)) ?_
  refine dl_op (t_call (first_fn _)) ?_
  refine dl_op t_field ?_
  refine dl_op t_load_one ?_
  refine dl_op t_field ?_
  refine dl_op t_load_one ?_
  refine dl_op t_len ?_
  refine dl_op t_add ?_
  refine dl_op t_gtr ?_
  refine dl_nil ?_
  refine gl_op (t_call (when_fn _ _)) ?_
  refine gl_op (t_buildSlice (α := Int)) ?_
  refine gl_op (t_call (first_fn _)) ?_
  refine gl_op t_assign ?_
  refine gl_nil ?_
  refine g_seq ?_
  refine gl_region ?_
  refine gl_op t_move ?_
  refine gl_op t_neq ?_
  refine gl_nil ?_
  refine g_cond (ot_tmp rfl) (fun h3 => ?_) (fun _ => ?_)
  · have h4 := firstE_zero (r.xs.map fun _ => (0 : Int)) (by simp)
    simp [firstE, h4] at h3
    omega
  refine g_skip ?_
  refine g_seq ?_
  refine gl_region ?_
  refine gl_op t_loadV ?_
  refine gl_op (t_call (checkHoles_fn _ hr)) ?_
  refine gl_op t_assign ?_
  refine gl_nil ?_
  exact g_ret Try.func67 () (res1e Try.results67 rfl rfl) (.inl rfl)

end Go.Proofs.Ytkoinfegbkigcaa
