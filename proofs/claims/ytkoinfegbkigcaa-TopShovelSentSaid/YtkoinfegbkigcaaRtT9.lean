/- A part of the proof: contracts of functions of the program, each for the inputs that its premises name. -/
import Derived.Test.YtkoinfegbkigcaaRtT8
namespace Go.Proofs.Ytkoinfegbkigcaa
open Go.Rt
set_option maxHeartbeats 400000

theorem rwhen_fn (q : Bool) (e : Int) : FnS Try.prog 89 [Is (.bool q), Is (.int .i64 e)] (Is (.int .i64 (if q then e else 0))) := by
  refine spec_enter Try.func89 rfl Try.ntmps89 Try.call89 (by simp) fun C _ => ?_
  refine g_seq ?_
  refine gl_region ?_
  refine gl_op t_assign ?_
  refine gl_nil ?_
  refine g_seq ?_
  refine g_seq ?_
  refine gl_region ?_
  refine gl_op t_move ?_
  refine gl_nil ?_
  refine g_cond (ot_tmp rfl) (fun h => ?_) (fun h => ?_)
  · refine g_seq ?_
    refine gl_region ?_
    refine gl_op t_move ?_
    refine gl_op t_assign ?_
    refine gl_nil ?_
    refine g_ret Try.func89 () (res1 Try.results89 ?_) (.inl rfl)
    subst h; rfl
  · refine g_skip ?_
    refine g_seq ?_
    refine gl_region ?_
    refine gl_op t_assign ?_
    refine gl_nil ?_
    refine g_ret Try.func89 () (res1 Try.results89 ?_) (.inl rfl)
    subst h; rfl

theorem rfirst_fn (xs : List Int) : FnS Try.prog 88 [Sl xs] (Is (.int .i64 (firstE xs))) := by
  refine spec_enter Try.func88 rfl Try.ntmps88 Try.call88 (by simp) fun C _ => ?_
  refine g_fact (s := 0) rfl sl_len fun hlen => ?_
  refine g_seq ?_
  refine gl_region ?_
  refine gl_op t_assign ?_
  refine gl_nil ?_
  refine g_seq ?_
  refine g_seq ?_
  refine gl_region ?_
  refine gl_op t_assign ?_
  refine gl_nil ?_
  refine g_block ?_
  refine g_loop (fun k : Nat => k ≤ xs.length ∧ firstE (xs.drop k) = firstE xs) (fun k => [(3, Is (.int .i64 k)), (0, Sl xs)]) (fun _ => []) (fun k => xs.length - k) (fun H => ?_) (fun k hk ih => ?_)
  · refine g_subF ?_ (H 0 (by simp))
    repeat (first | exact tf_nil | refine tf_cons (by first | exact ot_tmp rfl | exact ot_eq rfl (by first | (simp; done) | (congr 2; omega)) | exact ot_sub (ot_tmp rfl) sl_slf) ?_)
  · obtain ⟨h1, h2⟩ := hk
    refine g_seq ?_
    refine g_seq ?_
    refine gl_region ?_
    refine gl_op t_move ?_
    refine gl_op t_move ?_
    refine gl_op t_len ?_
    refine gl_op t_lss ?_
    refine gl_nil ?_
    refine g_cond (ot_tmp rfl) (fun h => ?_) (fun h => ?_)
    · simp at h
      have hd := firstE_drop h
      refine g_skip ?_
      refine g_seq ?_
      refine g_block ?_
      refine g_seq ?_
      refine gl_region ?_
      refine gl_op t_move ?_
      refine gl_op t_move ?_
      refine gl_op t_index ?_
      refine gl_op t_load_one ?_
      refine gl_op t_neq ?_
      refine gl_nil ?_
      refine g_cond (ot_tmp rfl) (fun h3 => ?_) (fun h3 => ?_)
      · refine g_seq ?_
        refine gl_region ?_
        refine gl_op t_move ?_
        refine gl_op t_move ?_
        refine gl_op t_index ?_
        refine gl_op t_load_one ?_
        refine gl_op t_assign ?_
        refine gl_nil ?_
        refine g_ret Try.func88 () (res1e Try.results88 rfl ?_) (.inl rfl)
        simp at h3
        rw [← h2, hd]
        simp [h3]
      · refine g_skip ?_
        refine g_inBlock ?_
        refine gl_region ?_
        refine gl_op t_move ?_
        refine gl_op t_add ?_
        refine gl_op t_assign ?_
        refine gl_nil ?_
        simp at h3
        refine g_subF ?_ (ih (k + 1) ⟨by omega, ?_⟩ (by omega))
        · repeat (first | exact tf_nil | refine tf_cons (by first | exact ot_tmp rfl | exact ot_eq rfl (by first | (simp; done) | (congr 2; omega)) | exact ot_sub (ot_tmp rfl) sl_slf) ?_)
        · rw [← h2, hd]
          simp [h3]
    · simp at h
      refine g_exit rfl ?_
      refine g_seq ?_
      refine gl_region ?_
      refine gl_op t_assign ?_
      refine gl_nil ?_
      refine g_ret Try.func88 () (res1e Try.results88 rfl ?_) (.inl rfl)
      rw [← h2, List.drop_of_length_le (by omega)]
      rfl

theorem range_fn (n a b : Int) : FnS Try.prog 99 [Is (.int .i64 n), Is (.int .i64 a), Is (.int .i64 b)] (Is (.int .i64 (if n < a ∨ b < n then 3 else 0))) := by
  refine spec_enter Try.func99 rfl Try.ntmps99 Try.call99 (by simp) fun C _ => ?_
  refine g_seq ?_
  refine gl_region ?_
  refine gl_op t_assign ?_
  refine gl_nil ?_
  refine g_seq ?_
  refine gl_region ?_
  refine gl_op t_move ?_
  refine gl_op t_move ?_
  refine gl_op t_lss ?_
  refine gl_op t_move ?_
  refine gl_guard (hop := fun _ => t_move) (h := ?_)
  refine gl_guard (hop := fun _ => t_move) (h := ?_)
  refine gl_guard (hop := fun _ => t_gtr) (h := ?_)
  refine gl_op t_pick_or ?_
  refine gl_op (t_call (rwhen_fn _ _)) ?_
  refine gl_op t_assign ?_
  refine gl_nil ?_
  refine g_ret Try.func99 () (res1e Try.results99 rfl (by simp)) (.inl rfl)

theorem checkSpan_fn (s : Span) (n : Int) : FnS Try.prog 208 [Va s, Is (.int .i64 n)] (Is (.int .i64 (if s.lo < 0 ∨ s.hi < s.lo ∨ n < s.hi then 14 else 0))) := by
  refine spec_enter Try.func208 rfl Try.ntmps208 Try.call208 (by simp) fun C _ => ?_
  refine g_seq ?_
  refine gl_region ?_
  refine gl_op t_box ?_
  refine gl_op t_assign ?_
  refine gl_nil ?_
  refine g_seq ?_
  refine gl_region ?_
  refine gl_op t_field ?_
  refine gl_op t_load_one ?_
  refine gl_op t_lss ?_
  refine gl_op t_move ?_
  refine gl_guard (hop := fun _ => t_field) (h := ?_)
  refine gl_guard (hop := fun _ => t_load_one) (h := ?_)
  refine gl_guard (hop := fun _ => t_field) (h := ?_)
  refine gl_guard (hop := fun _ => t_load_one) (h := ?_)
  refine gl_guard (hop := fun _ => t_gtr) (h := ?_)
  refine gl_op t_pick_or ?_
  refine gl_op t_move ?_
  refine gl_guard (hop := fun _ => t_field) (h := ?_)
  refine gl_guard (hop := fun _ => t_load_one) (h := ?_)
  refine gl_guard (hop := fun _ => t_move) (h := ?_)
  refine gl_guard (hop := fun _ => t_gtr) (h := ?_)
  refine gl_op t_pick_or ?_
  refine gl_op (t_call (rwhen_fn _ _)) ?_
  refine gl_op t_assign ?_
  refine gl_nil ?_
  refine g_ret Try.func208 () (res1e Try.results208 rfl (by simp [or_assoc])) (.inl rfl)

theorem checkFull_fn (s : Span) (n : Int) (h : 0 ≤ s.lo ∧ s.lo < s.hi ∧ s.hi ≤ n) : FnS Try.prog 153 [Va s, Is (.int .i64 n)] (Va (0 : Int)) := by
  refine spec_enter Try.func153 rfl Try.ntmps153 Try.call153 (by simp) fun C _ => ?_
  refine g_seq ?_
  refine gl_region ?_
  refine gl_op t_box ?_
  refine gl_op t_assign ?_
  refine gl_nil ?_
  refine g_seq ?_
  refine gd_region 8 mixed (by kernel_rfl) ?_
  simp only [List.take_succ_cons, List.take_zero, List.drop_succ_cons, List.drop_zero]
  refine dl_op t_loadV ?_
  refine dl_op t_move ?_
  refine dl_op (t_call (checkSpan_fn _ _)) ?_
  refine dl_op t_field ?_
  refine dl_op t_load_one ?_
  refine dl_op t_field ?_
  refine dl_op t_load_one ?_
  refine dl_op t_eql ?_
  refine dl_nil ?_
  refine gl_op (t_call (rwhen_fn _ _)) ?_
  refine gl_op (t_buildSlice (α := Int)) ?_
  refine gl_op (t_call (rfirst_fn _)) ?_
  refine gl_op t_assign ?_
  refine gl_nil ?_
  refine g_ret Try.func153 () (res1e Try.results153 rfl ?_) (.inl rfl)
  rw [if_neg (by omega), if_neg (by simp; omega)]
  rfl

theorem isLetter_fn (c : Int) : FnS Try.prog 206 [Is (.int .u8 c)] (Is (.bool (decide (97 ≤ c ∧ c ≤ 122 ∨ 65 ≤ c ∧ c ≤ 90)))) := by
  refine spec_enter Try.func206 rfl Try.ntmps206 Try.call206 (by simp) fun C hX => ?_
  refine g_seq ?_
  refine gl_region ?_
  refine gl_op t_assign ?_
  refine gl_nil ?_
  refine g_seq ?_
  refine gl_region ?_
  refine gl_op t_move ?_
  refine gl_op t_leq ?_
  refine gl_op t_move ?_
  refine gl_guard (hop := fun _ => t_move) (h := ?_)
  refine gl_guard (hop := fun _ => t_leq) (h := ?_)
  refine gl_op t_pick_and ?_
  refine gl_op t_move ?_
  refine gl_guard (hop := fun _ => t_move) (h := ?_)
  refine gl_guard (hop := fun _ => t_leq) (h := ?_)
  refine gl_guard (hop := fun _ => t_move (hx := by exact ot_when rfl (by assumption))) (h := ?_)
  refine gl_guard (hop := fun _ => t_move) (h := ?_)
  refine gl_guard (hop := fun _ => t_leq) (h := ?_)
  refine gl_guard (hop := fun _ => t_pick_and) (h := ?_)
  refine gl_op t_pick_or ?_
  refine gl_op t_assign ?_
  refine gl_nil ?_
  refine g_ret Try.func206 () (res1e Try.results206 rfl ?_) (.inl rfl)
  congr 2; simp [Bool.decide_or, Bool.decide_and, Bool.or_comm]

theorem isDigit_fn (c : Int) : FnS Try.prog 207 [Is (.int .u8 c)] (Is (.bool (decide (48 ≤ c ∧ c ≤ 57)))) := by
  refine spec_enter Try.func207 rfl Try.ntmps207 Try.call207 (by simp) fun C hX => ?_
  refine g_seq ?_
  refine gl_region ?_
  refine gl_op t_assign ?_
  refine gl_nil ?_
  refine g_seq ?_
  refine gl_region ?_
  refine gl_op t_move ?_
  refine gl_op t_leq ?_
  refine gl_op t_move ?_
  refine gl_guard (hop := fun _ => t_move) (h := ?_)
  refine gl_guard (hop := fun _ => t_leq) (h := ?_)
  refine gl_op t_pick_and ?_
  refine gl_op t_assign ?_
  refine gl_nil ?_
  refine g_ret Try.func207 () (res1e Try.results207 rfl ?_) (.inl rfl)
  congr 2; simp [Bool.decide_and]

theorem rIsName_fn (s : ByteArray) (h : NameOk s) : FnS Try.prog 151 [Is (.string s)] (Is (.bool true)) := by
  obtain ⟨hs1, hs2, hs3⟩ := h
  have h0 := hs3 0 hs1
  refine spec_enter Try.func151 rfl Try.ntmps151 Try.call151 (by simp) fun C hX => ?_
  refine g_seq ?_
  refine gl_region ?_
  refine gl_op t_assign ?_
  refine gl_nil ?_
  refine g_seq ?_
  refine g_seq ?_
  refine gl_region ?_
  refine gl_op t_move ?_
  refine gl_op t_len_str ?_
  refine gl_op t_eql ?_
  refine gl_op t_move ?_
  refine gl_guard (hop := fun _ => t_move) (h := ?_)
  refine gl_guard (hop := fun _ => t_len_str) (h := ?_)
  refine gl_guard (hop := fun _ => t_gtr) (h := ?_)
  refine gl_op t_pick_or ?_
  refine gl_op t_move ?_
  refine gl_guard (hop := fun _ => t_move) (h := ?_)
  refine gl_guard (hop := fun _ => t_index_str (n := 0)) (h := ?_)
  refine gl_guard (hop := fun _ => (t_call (isLetter_fn _))) (h := ?_)
  refine gl_guard (hop := fun _ => t_not) (h := ?_)
  refine gl_op t_pick_or ?_
  refine gl_nil ?_
  refine g_cond (ot_tmp rfl) (fun h => ?_) (fun _ => ?_)
  · exfalso
    simp at h
    rcases h with (h | h) | h
    · rw [h] at hs1; exact absurd hs1 (by decide)
    · omega
    · omega
  refine g_skip ?_
  refine g_seq ?_
  refine g_seq ?_
  refine gl_region ?_
  refine gl_op t_assign ?_
  refine gl_nil ?_
  refine g_block ?_
  refine g_loop (fun i : Nat => 1 ≤ i ∧ i ≤ s.size) (fun i => [(0, Is (.string s)), (3, Is (.int .i64 i))]) (fun i => []) (fun i => s.size - i) (fun H => ?_) (fun i hi ih => ?_)
  · refine g_subF ?_ (H 1 (by omega))
    repeat (first | exact tf_nil | refine tf_cons (by first | exact ot_tmp rfl | exact ot_eq rfl (by first | (simp; done) | (congr 2; omega)) | exact ot_sub (ot_tmp rfl) sl_slf) ?_)
  · refine g_seq ?_
    refine g_seq ?_
    refine gl_region ?_
    refine gl_op t_move ?_
    refine gl_op t_move ?_
    refine gl_op t_len_str ?_
    refine gl_op t_lss ?_
    refine gl_nil ?_
    refine g_cond (ot_tmp rfl) (fun hlt => ?_) (fun hge => ?_)
    · simp at hlt
      have hb := hs3 i hlt
      refine g_skip ?_
      refine g_seq ?_
      refine g_block ?_
      refine g_seq ?_
      refine gl_region ?_
      refine gl_op t_move ?_
      refine gl_op t_move ?_
      refine gl_op (t_index_str (n := (i : Int))) ?_
      refine gl_op (t_call (isLetter_fn _)) ?_
      refine gl_op t_not ?_
      refine gl_op t_move ?_
      refine gl_guard (hop := fun _ => t_move) (h := ?_)
      refine gl_guard (hop := fun _ => t_move) (h := ?_)
      refine gl_guard (hop := fun _ => t_index_str (n := (i : Int))) (h := ?_)
      refine gl_guard (hop := fun _ => (t_call (isDigit_fn _))) (h := ?_)
      refine gl_guard (hop := fun _ => t_not) (h := ?_)
      refine gl_op t_pick_and ?_
      refine gl_op t_move ?_
      refine gl_guard (hop := fun _ => t_move) (h := ?_)
      refine gl_guard (hop := fun _ => t_move) (h := ?_)
      refine gl_guard (hop := fun _ => t_index_str (n := (i : Int))) (h := ?_)
      refine gl_guard (hop := fun _ => t_neq) (h := ?_)
      refine gl_op t_pick_and ?_
      refine gl_nil ?_
      refine g_cond (ot_tmp rfl) (fun h => ?_) (fun _ => ?_)
      · exfalso
        simp at h
        omega
      · refine g_skip ?_
        refine g_inBlock ?_
        refine gl_region ?_
        refine gl_op t_move ?_
        refine gl_op t_add ?_
        refine gl_op t_assign ?_
        refine gl_nil ?_
        refine g_subF ?_ (ih (i + 1) (by omega) (by omega))
        repeat (first | exact tf_nil | refine tf_cons (by first | exact ot_tmp rfl | exact ot_eq rfl (by first | (simp; done) | (congr 2; omega)) | exact ot_sub (ot_tmp rfl) sl_slf) ?_)
    · refine g_exit rfl ?_
      refine g_seq ?_
      refine gl_region ?_
      refine gl_op t_assign ?_
      refine gl_nil ?_
      exact g_ret Try.func151 () (res1e Try.results151 rfl rfl) (.inl rfl)

theorem checkName_fn (s : ByteArray) (h : NameOk s) : FnS Try.prog 98 [Is (.string s)] (Va (0 : Int)) := by
  refine spec_enter Try.func98 rfl Try.ntmps98 Try.call98 (by simp) fun C hX => ?_
  refine g_seq ?_
  refine gl_region ?_
  refine gl_op t_assign ?_
  refine gl_nil ?_
  refine g_seq ?_
  refine gl_region ?_
  refine gl_op t_move ?_
  refine gl_op (t_call (rIsName_fn _ h)) ?_
  refine gl_op t_not ?_
  refine gl_op (t_call (rwhen_fn _ _)) ?_
  refine gl_op t_assign ?_
  refine gl_nil ?_
  exact g_ret Try.func98 () (res1e Try.results98 rfl rfl) (.inl rfl)


theorem rcheckPart_fn (x : F32) (hg : Good x) : FnS Try.prog 149 [Va x, Is (.int .i64 1024)] (Va (0 : Int)) := by
  obtain ⟨m, h1, h2, h3, h4, h5⟩ := hg.f.mul
  refine spec_enter Try.func149 rfl Try.ntmps149 Try.call149 (by simp) fun C hX => ?_
  refine g_seq ?_
  refine gl_region ?_
  refine gl_op t_assign ?_
  refine gl_nil ?_
  refine g_seq ?_
  refine g_seq ?_
  refine gl_region ?_
  refine gl_op t_move ?_
  refine gl_op t_move ?_
  refine gl_op (t_fcmp) ?_
  refine gl_op t_move ?_
  refine gl_guard (hop := fun _ => t_move) (h := ?_)
  refine gl_guard (hop := fun _ => (t_fcmp)) (h := ?_)
  refine gl_op t_pick_or ?_
  refine gl_op t_move ?_
  refine gl_guard (hop := fun _ => t_move) (h := ?_)
  refine gl_guard (hop := fun _ => (t_fcmp)) (h := ?_)
  refine gl_op t_pick_or ?_
  refine gl_nil ?_
  refine g_cond (ot_tmp rfl) (fun h => ?_) (fun _ => ?_)
  · rw [hg.f.irr, hg.f.max, hg.f.min] at h; cases h
  refine g_skip ?_
  refine g_seq ?_
  refine g_seq ?_
  refine gl_region ?_
  refine gl_op t_move ?_
  refine gl_op t_move ?_
  refine gl_op t_sub ?_
  refine gl_op (t_conv_if) ?_
  refine gl_op (t_fcmp) ?_
  refine gl_op t_move ?_
  refine gl_guard (hop := fun _ => t_move) (h := ?_)
  refine gl_guard (hop := fun _ => t_move) (h := ?_)
  refine gl_guard (hop := fun _ => (t_conv_if)) (h := ?_)
  refine gl_guard (hop := fun _ => (t_fcmp)) (h := ?_)
  refine gl_op t_pick_or ?_
  refine gl_op t_move ?_
  refine gl_guard (hop := fun _ => t_move) (h := ?_)
  refine gl_guard (hop := fun _ => (t_farith (hr := h2))) (h := ?_)
  refine gl_guard (hop := fun _ => (t_conv_fi (hn := h3))) (h := ?_)
  refine gl_guard (hop := fun _ => (t_conv_if)) (h := ?_)
  refine gl_guard (hop := fun _ => t_move) (h := ?_)
  refine gl_guard (hop := fun _ => (t_farith (hr := h2))) (h := ?_)
  refine gl_guard (hop := fun _ => (t_fcmp)) (h := ?_)
  refine gl_op t_pick_or ?_
  refine gl_nil ?_
  refine g_cond (ot_tmp rfl) (fun h => ?_) (fun _ => ?_)
  · simp [hg.f.lss, hg.f.gtr, h5] at h
  refine g_skip ?_
  refine g_seq ?_
  refine gl_region ?_
  refine gl_op t_assign ?_
  refine gl_nil ?_
  exact g_ret Try.func149 () (res1e Try.results149 rfl rfl) (.inl rfl)

theorem rcheckSample_fn (x : F32) (hg : Good x) : FnS Try.prog 91 [Va x] (Va (0 : Int)) := by
  refine spec_enter Try.func91 rfl Try.ntmps91 Try.call91 (by simp) fun C hX => ?_
  refine g_seq ?_
  refine gl_region ?_
  refine gl_op t_assign ?_
  refine gl_nil ?_
  refine g_seq ?_
  refine gl_region ?_
  refine gl_op t_move ?_
  refine gl_op (t_call (rcheckPart_fn _ hg)) ?_
  refine gl_op t_assign ?_
  refine gl_nil ?_
  exact g_ret Try.func91 () (res1e Try.results91 rfl rfl) (.inl rfl)

theorem checkSamples_fn (xs : List F32) (hg : ∀ x ∈ xs, Good x) : FnS Try.prog 152 [Sl xs] (Va (0 : Int)) := by
  refine spec_enter Try.func152 rfl Try.ntmps152 Try.call152 (by simp) fun C _ => ?_
  refine g_fact (s := 0) rfl sl_len fun hlen => ?_
  refine g_seq ?_
  refine gl_region ?_
  refine gl_op t_assign ?_
  refine gl_nil ?_
  refine g_seq ?_
  refine g_seq ?_
  refine gl_region ?_
  refine gl_op t_assign ?_
  refine gl_nil ?_
  refine g_block ?_
  refine g_loop (fun k : Nat => k ≤ xs.length) (fun k => [(3, Is (.int .i64 k)), (0, Sl xs)]) (fun _ => []) (fun k => xs.length - k) (fun H => ?_) (fun k hk ih => ?_)
  · refine g_subF ?_ (H 0 (by simp))
    repeat (first | exact tf_nil | refine tf_cons (by first | exact ot_tmp rfl | exact ot_eq rfl (by first | (simp; done) | (congr 2; omega)) | exact ot_sub (ot_tmp rfl) sl_slf) ?_)
  · refine g_seq ?_
    refine g_seq ?_
    refine gl_region ?_
    refine gl_op t_move ?_
    refine gl_op t_move ?_
    refine gl_op t_len ?_
    refine gl_op t_lss ?_
    refine gl_nil ?_
    refine g_cond (ot_tmp rfl) (fun h => ?_) (fun h => ?_)
    · simp at h
      refine g_skip ?_
      refine g_seq ?_
      refine g_block ?_
      refine g_seq ?_
      refine gl_region ?_
      refine gl_op t_move ?_
      refine gl_op t_move ?_
      refine gl_op t_index ?_
      refine gl_op t_load_one ?_
      refine gl_op (t_call (rcheckSample_fn _ (hg _ (getD_mem h)))) ?_
      refine gl_op t_assign ?_
      refine gl_nil ?_
      refine g_seq ?_
      refine gl_region ?_
      refine gl_op t_move ?_
      refine gl_op t_neq ?_
      refine gl_nil ?_
      refine g_cond (ot_tmp rfl) (fun h3 => by simp at h3) (fun h3 => ?_)
      refine g_skip ?_
      refine g_inBlock ?_
      refine gl_region ?_
      refine gl_op t_move ?_
      refine gl_op t_add ?_
      refine gl_op t_assign ?_
      refine gl_nil ?_
      refine g_subF ?_ (ih (k + 1) (by omega) (by omega))
      repeat (first | exact tf_nil | refine tf_cons (by first | exact ot_tmp rfl | exact ot_eq rfl (by first | (simp; done) | (congr 2; omega)) | exact ot_sub (ot_tmp rfl) sl_slf) ?_)
    · refine g_exit rfl ?_
      refine g_seq ?_
      refine gl_region ?_
      refine gl_op t_assign ?_
      refine gl_nil ?_
      exact g_ret Try.func152 () (res1e Try.results152 rfl rfl) (.inl rfl)

theorem checkList_fn (xs : List F32) (hg : ∀ x ∈ xs, Good x) (hl : xs.length ≤ 4096) : FnS Try.prog 100 [Sl xs] (Va (0 : Int)) := by
  refine spec_enter Try.func100 rfl Try.ntmps100 Try.call100 (by simp) fun C _ => ?_
  refine g_seq ?_
  refine gl_region ?_
  refine gl_op t_assign ?_
  refine gl_nil ?_
  refine g_seq ?_
  refine gl_region ?_
  refine gl_op t_move ?_
  refine gl_op t_len ?_
  refine gl_op t_gtr ?_
  refine gl_op (t_call (rwhen_fn _ _)) ?_
  refine gl_op t_move ?_
  refine gl_op (t_call (checkSamples_fn _ hg)) ?_
  refine gl_op (t_buildSlice (α := Int)) ?_
  refine gl_op (t_call (rfirst_fn _)) ?_
  refine gl_op t_assign ?_
  refine gl_nil ?_
  refine g_ret Try.func100 () (res1e Try.results100 rfl ?_) (.inl rfl)
  rw [if_neg (by simp; omega)]; rfl

theorem isKnown_fn (r : Run) (i : Int) (hl : r.hs.length ≤ 100000) : FnS Try.prog 40 [Va r, Is (.int .i64 i)] (Va (!inHole r.hs i)) := by
  refine spec_enter Try.func40 rfl Try.ntmps40 Try.call40 (by simp) fun C _ => ?_
  refine g_seq ?_
  refine gl_region ?_
  refine gl_op t_box ?_
  refine gl_op t_assign ?_
  refine gl_nil ?_
  refine g_seq ?_
  refine g_seq ?_
  refine gl_region ?_
  refine gl_op t_assign ?_
  refine gl_nil ?_
  refine g_block ?_
  refine g_loop (fun k : Nat => k ≤ r.hs.length ∧ inHole (r.hs.take k) i = false) (fun k => [(5, Is (.int .i64 k)), (1, Is (.int .i64 i)), (2, PtrTo (Enc.ty r))]) (fun _ => []) (fun k => r.hs.length - k) (fun H => ?_) (fun k hk ih => ?_)
  · refine g_subF ?_ (H 0 ⟨by simp, by simp [inHole]⟩)
    repeat (first | exact tf_nil | refine tf_cons (by first | exact ot_tmp rfl | exact ot_eq rfl (by first | (simp; done) | (congr 2; omega)) | exact ot_sub (ot_tmp rfl) sl_slf) ?_)
  · obtain ⟨hk, hn⟩ := hk
    refine g_seq ?_
    refine g_seq ?_
    refine gl_region ?_
    refine gl_op t_move ?_
    refine gl_op t_field ?_
    refine gl_op t_load_one ?_
    refine gl_op t_len ?_
    refine gl_op t_lss ?_
    refine gl_nil ?_
    refine g_cond (ot_tmp rfl) (fun h => ?_) (fun h => ?_)
    · simp at h
      have hs := inHole_take_succ h i
      refine g_skip ?_
      refine g_seq ?_
      refine g_block ?_
      refine g_seq ?_
      refine gl_region ?_
      refine gl_op t_move ?_
      refine gl_op t_field ?_
      refine gl_op t_load_one ?_
      refine gl_op t_move ?_
      refine gl_op t_index ?_
      refine gl_op t_field ?_
      refine gl_op t_load_one ?_
      refine gl_op t_geq ?_
      refine gl_op t_move ?_
      refine gl_guard (hop := fun _ => t_move) (h := ?_)
      refine gl_guard (hop := fun _ => t_field) (h := ?_)
      refine gl_guard (hop := fun _ => t_load_one) (h := ?_)
      refine gl_guard (hop := fun _ => t_move) (h := ?_)
      refine gl_guard (hop := fun _ => (t_index (hx := ot_when rfl (by assumption)) (hi := ot_when rfl (by assumption)) (m := k) (hm := by omega))) (h := ?_)
      refine gl_guard (hop := fun _ => t_field) (h := ?_)
      refine gl_guard (hop := fun _ => t_load_one) (h := ?_)
      refine gl_guard (hop := fun _ => t_lss) (h := ?_)
      refine gl_op t_pick_and ?_
      refine gl_nil ?_
      refine g_cond (ot_tmp rfl) (fun h3 => ?_) (fun h3 => ?_)
      · refine g_seq ?_
        refine gl_region ?_
        refine gl_op t_assign ?_
        refine gl_nil ?_
        refine g_ret Try.func40 () (res1e Try.results40 rfl ?_) (.inl rfl)
        have : inHole r.hs i = true := by
          simp only [Bool.and_eq_true, decide_eq_true_eq] at h3
          unfold inHole
          rw [List.any_eq_true]
          exact ⟨_, getD_mem h, by simp only [decide_eq_true_eq]; omega⟩
        rw [this]; rfl
      · refine g_skip ?_
        refine g_inBlock ?_
        refine gl_region ?_
        refine gl_op t_move ?_
        refine gl_op t_add ?_
        refine gl_op t_assign ?_
        refine gl_nil ?_
        refine g_subF ?_ (ih (k + 1) ⟨by omega, ?_⟩ (by omega))
        · repeat (first | exact tf_nil | refine tf_cons (by first | exact ot_tmp rfl | exact ot_eq rfl (by first | (simp; done) | (congr 2; omega)) | exact ot_sub (ot_tmp rfl) sl_slf) ?_)
        · rw [hs, hn, Bool.false_or]
          simp only [Bool.and_eq_false_iff, decide_eq_false_iff_not] at h3 ⊢
          omega
    · simp at h
      refine g_exit rfl ?_
      refine g_seq ?_
      refine gl_region ?_
      refine gl_op t_assign ?_
      refine gl_nil ?_
      refine g_ret Try.func40 () (res1e Try.results40 rfl ?_) (.inl rfl)
      rw [List.take_of_length_le (by omega)] at hn
      rw [hn]; rfl

end Go.Proofs.Ytkoinfegbkigcaa
