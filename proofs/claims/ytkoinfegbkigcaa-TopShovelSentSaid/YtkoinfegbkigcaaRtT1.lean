/- A part of the proof: contracts of functions of the program, each for the inputs that its premises name. -/
import Derived.Test.YtkoinfegbkigcaaRtFacts2
namespace Go.Proofs.Ytkoinfegbkigcaa
open Go.Rt

theorem when_fn (q : Bool) (e : Int) : FnS Try.prog 68 [Is (.bool q), Is (.int .i64 e)] (Is (.int .i64 (if q then e else 0))) := by
  refine spec_enter Try.func68 rfl Try.ntmps68 Try.call68 (by simp) fun C _ => ?_
  refine g_seq ?_
  refine gl_region ?_
  refine gl_op t_assign ?_
  refine gl_nil ?_
  refine g_seq ?_
  refine g_seq ?_
  refine gl_region ?_
  refine gl_op t_move ?_
  refine gl_nil ?_
  refine g_cond (ot_tmp rfl) (fun h => ?_) (fun h => ?_)
  · refine g_seq ?_
    refine gl_region ?_
    refine gl_op t_move ?_
    refine gl_op t_assign ?_
    refine gl_nil ?_
    refine g_ret Try.func68 () (res1 Try.results68 ?_) (.inl rfl)
    subst h; rfl
  · refine g_skip ?_
    refine g_seq ?_
    refine gl_region ?_
    refine gl_op t_assign ?_
    refine gl_nil ?_
    refine g_ret Try.func68 () (res1 Try.results68 ?_) (.inl rfl)
    subst h; rfl

theorem within_fn (n a b : Int) : FnS Try.prog 63 [Is (.int .i64 n), Is (.int .i64 a), Is (.int .i64 b)] (Is (.int .i64 (if n < a ∨ b < n then 3 else 0))) := by
  refine spec_enter Try.func63 rfl Try.ntmps63 Try.call63 (by simp) fun C _ => ?_
  refine g_seq ?_
  refine gl_region ?_
  refine gl_op t_assign ?_
  refine gl_nil ?_
  refine g_seq ?_
  refine gl_region ?_
  refine gl_op t_move ?_
  refine gl_op t_move ?_
  refine gl_op t_lss ?_
  refine gl_op t_move ?_
  refine gl_guard (hop := fun _ => t_move) (h := ?_)
  refine gl_guard (hop := fun _ => t_move) (h := ?_)
  refine gl_guard (hop := fun _ => t_gtr) (h := ?_)
  refine gl_op t_pick_or ?_
  refine gl_op (t_call (when_fn _ _)) ?_
  refine gl_op t_assign ?_
  refine gl_nil ?_
  refine g_ret Try.func63 () (res1e Try.results63 rfl (by simp)) (.inl rfl)

def firstE : List Int → Int
  | [] => 0
  | e :: l => if e ≠ 0 then e else firstE l

theorem firstE_drop {xs : List Int} {k : Nat} (h : k < xs.length) : firstE (xs.drop k) = if xs.getD k default ≠ 0 then xs.getD k default else firstE (xs.drop (k + 1)) := by
  rw [List.drop_eq_getElem_cons h]
  simp [firstE, List.getD, h]

theorem first_fn (xs : List Int) : FnS Try.prog 61 [Sl xs] (Is (.int .i64 (firstE xs))) := by
  refine spec_enter Try.func61 rfl Try.ntmps61 Try.call61 (by simp) fun C _ => ?_
  refine g_fact (s := 0) rfl sl_len fun hlen => ?_
  refine g_seq ?_
  refine gl_region ?_
  refine gl_op t_assign ?_
  refine gl_nil ?_
  refine g_seq ?_
  refine g_seq ?_
  refine gl_region ?_
  refine gl_op t_move ?_
  refine gl_op t_len ?_
  refine gl_op t_move ?_
  refine gl_nil ?_
  refine g_block ?_
  refine g_loop (fun k : Nat => k ≤ xs.length ∧ firstE (xs.drop k) = firstE xs) (fun k => [(7, Is (.int .i64 k)), (5, Sl xs), (6, Is (.int .i64 xs.length))]) (fun _ => []) (fun k => xs.length - k) (fun H => ?_) (fun k hk ih => ?_)
  · refine g_subF ?_ (H 0 (by simp))
    repeat (first | exact tf_nil | refine tf_cons (by first | exact ot_tmp rfl | exact ot_eq rfl (by first | (simp; done) | (congr 2; omega)) | exact ot_sub (ot_tmp rfl) sl_slf) ?_)
  · obtain ⟨h1, h2⟩ := hk
    refine g_seq ?_
    refine gl_region ?_
    refine gl_op t_lss ?_
    refine gl_nil ?_
    refine g_seq ?_
    refine g_cond (ot_tmp rfl) (fun h => ?_) (fun h => ?_)
    · simp at h
      have hd := firstE_drop h
      refine g_skip ?_
      refine g_seq ?_
      refine g_block ?_
      refine g_seq ?_
      refine gl_region ?_
      refine gl_op t_index ?_
      refine gl_op t_load_one ?_
      refine gl_op t_assign ?_
      refine gl_nil ?_
      refine g_seq ?_
      refine gl_region ?_
      refine gl_op t_move ?_
      refine gl_op t_neq ?_
      refine gl_nil ?_
      refine g_cond (ot_tmp rfl) (fun h3 => ?_) (fun h3 => ?_)
      · refine g_seq ?_
        refine gl_region ?_
        refine gl_op t_move ?_
        refine gl_op t_assign ?_
        refine gl_nil ?_
        refine g_ret Try.func61 () (res1e Try.results61 rfl ?_) (.inl rfl)
        simp at h3
        rw [← h2, hd]
        simp [h3]
      · refine g_skip ?_
        refine g_inBlock ?_
        refine gl_region ?_
        refine gl_op t_add ?_
        refine gl_op t_move ?_
        refine gl_nil ?_
        simp at h3
        refine g_subF ?_ (ih (k + 1) ⟨by omega, ?_⟩ (by omega))
        · repeat (first | exact tf_nil | refine tf_cons (by first | exact ot_tmp rfl | exact ot_eq rfl (by first | (simp; done) | (congr 2; omega)) | exact ot_sub (ot_tmp rfl) sl_slf) ?_)
        · rw [← h2, hd]
          simp [h3]
    · simp at h
      refine g_exit rfl ?_
      refine g_seq ?_
      refine gl_region ?_
      refine gl_op t_assign ?_
      refine gl_nil ?_
      refine g_ret Try.func61 () (res1e Try.results61 rfl ?_) (.inl rfl)
      rw [← h2, List.drop_of_length_le (by omega)]
      rfl

/-- what mapped does. -/
theorem mapped126_fn (xs : List F32) (p : F32 → Prop) (g : F32 → Int) (hp : ∀ x ∈ xs, p x) (hlen : xs.length ≤ 1000000) : FnS Try.prog 126 [Sl xs, FnV Try.prog (ι := {x : F32 // p x}) (fun x => [Va x.1]) (fun x => Va (g x.1))] (Sl (xs.map g)) := by
  refine spec_enter Try.func126 rfl Try.ntmps126 Try.call126 (by simp) fun C hX => ?_
  refine g_seq ?_
  refine gl_region ?_
  refine gl_op t_assign ?_
  refine gl_nil ?_
  refine g_seq ?_
  refine gl_region ?_
  refine gl_op t_assign ?_
  refine gl_nil ?_
  refine g_seq ?_
  refine g_seq ?_
  refine gl_region ?_
  refine gl_op t_move ?_
  refine gl_op t_len ?_
  refine gl_op t_move ?_
  refine gl_nil ?_
  refine g_block ?_
  refine g_loop (fun p : Nat × Value => p.1 ≤ xs.length) (fun q => [(5, Is q.2), (10, Is (.int .i64 q.1)), (8, Sl xs), (9, Is (.int .i64 xs.length)), (1, FnV Try.prog (ι := {x : F32 // p x}) (fun x => [Va x.1]) (fun x => Va (g x.1)))]) (fun q => [RowV q.2 37 ((xs.take q.1).map g)]) (fun q => xs.length - q.1) (fun H => ?_) (fun q hk ih => ?_)
  · refine g_ent (e_nilrow (E := 37) (α := Int)) ?_
    refine g_subF ?_ (H (0, .slice none 0 0) (by simp))
    repeat (first | exact tf_nil | refine tf_cons (by first | exact ot_tmp rfl | exact ot_eq rfl (by first | (simp; done) | (congr 2; omega)) | exact ot_sub (ot_tmp rfl) sl_slf) ?_)
  · obtain ⟨k, v⟩ := q
    refine g_seq ?_
    refine gl_region ?_
    refine gl_op t_lss ?_
    refine gl_nil ?_
    refine g_seq ?_
    refine g_cond (ot_tmp rfl) (fun h => ?_) (fun h => ?_)
    · simp at h hk
      have hx : xs.getD k default ∈ xs := getD_mem h
      refine g_skip ?_
      refine g_seq ?_
      refine g_block ?_
      refine g_seq ?_
      refine gl_region ?_
      refine gl_op t_index ?_
      refine gl_op t_load_one ?_
      refine gl_op t_assign ?_
      refine gl_nil ?_
      refine gl_region ?_
      refine gl_op t_move ?_
      refine gl_op t_move ?_
      refine gl_op t_move ?_
      refine gl_op (t_calldyn (⟨xs.getD k default, hp _ hx⟩ : {x : F32 // p x})) ?_
      refine gl_op (t_buildSlice (α := Int)) ?_
      refine gl_opM m_append (fun v' => ?_)
      refine gl_op t_assign ?_
      refine gl_nil ?_
      refine g_inBlock ?_
      refine gl_region ?_
      refine gl_op t_add ?_
      refine gl_op t_move ?_
      refine gl_nil ?_
      refine g_subF ?_ (g_eqM (M' := [RowV v' 37 ((xs.take (k + 1)).map g)]) ?_ (ih (k + 1, v') (by simp; omega) (by simp; omega)))
      · repeat (first | exact tf_nil | refine tf_cons (by first | exact ot_tmp rfl | exact ot_eq rfl (by first | (simp; done) | (congr 2; omega)) | exact ot_sub (ot_tmp rfl) sl_slf) ?_)
      · rw [map_take_snoc h]
    · simp at h hk
      refine g_exit rfl ?_
      refine g_seq ?_
      refine gl_region ?_
      refine gl_op t_move ?_
      refine gl_op t_assign ?_
      refine gl_nil ?_
      refine g_ent (e_row (s := 4) rfl hX) ?_
      refine g_ret Try.func126 () (res1e Try.results126 rfl ?_) (.inl rfl)
      rw [List.take_of_length_le (by simp; omega)]

end Go.Proofs.Ytkoinfegbkigcaa
