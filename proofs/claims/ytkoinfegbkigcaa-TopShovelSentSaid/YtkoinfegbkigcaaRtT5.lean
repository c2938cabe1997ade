/- A part of the proof: contracts of functions of the program, each for the inputs that its premises name. -/
import Derived.Test.YtkoinfegbkigcaaRtT4
namespace Go.Proofs.Ytkoinfegbkigcaa
open Go.Rt
set_option maxHeartbeats 400000

def holeStep (hs : List Span) (i : Int) (x : Reading) : List Span :=
  if x.known then hs
  else if hs ≠ [] ∧ (hs.getD (hs.length - 1) default).hi = i then hs.set (hs.length - 1) ⟨(hs.getD (hs.length - 1) default).lo, (hs.getD (hs.length - 1) default).hi + 1⟩
  else hs ++ [⟨i, i + 1⟩]
def holesUp (l : List Reading) : Nat → List Span
  | 0 => []
  | k + 1 => holeStep (holesUp l k) k (l.getD k default)
def holesOf (l : List Reading) : List Span := holesUp l l.length
theorem holeStep_len (hs : List Span) (i : Int) (x : Reading) : (holeStep hs i x).length ≤ hs.length + 1 := by
  unfold holeStep; split
  · omega
  · split <;> simp
theorem holesUp_len (l : List Reading) : ∀ k, (holesUp l k).length ≤ k
  | 0 => by simp [holesUp]
  | k + 1 => by
    have := holeStep_len (holesUp l k) k (l.getD k default)
    have := holesUp_len l k
    simp only [holesUp]; omega

theorem with_fn (r : Run) (l : List Reading) (hl : l.length ≤ 100000) (hs : ∀ x ∈ l, SmpR x.n) : FnS Try.prog 73 [Va r, Sl l] (Va (Run.mk r.name r.first (l.map fun x => smp x.n) (holesOf l))) := by
  refine spec_enter Try.func73 rfl Try.ntmps73 Try.call73 (by simp) fun C hX => ?_
  refine g_seq ?_
  refine gl_region ?_
  refine gl_op t_box ?_
  refine gl_opM m_alloc (fun bl => ?_)
  refine gl_nil ?_
  refine g_seq ?_
  refine gl_region ?_
  refine gl_op t_field ?_
  refine gl_op t_load_one ?_
  refine gl_op t_field ?_
  refine gl_op t_load_one ?_
  refine gl_op t_build ?_
  refine gl_opM m_alloc (fun bl => ?_)
  refine gl_opM0 m_store_agg (fun _ => ?_)
  refine gl_nil ?_
  refine g_seq ?_
  refine g_seq ?_
  refine gl_region ?_
  refine gl_op t_move ?_
  refine gl_op t_len ?_
  refine gl_op t_move ?_
  refine gl_nil ?_
  refine g_block ?_
  rename_i b4 u4
  revert bl; intro b5
  refine g_loop (fun q : Nat × Value × Value => q.1 ≤ l.length) (fun q => [(16, Is (.int .i64 q.1)), (15, Is (.int .i64 l.length)), (14, Sl l), (5, Is (.pointer (some ⟨b5, 0, none⟩))), (4, Is (.pointer (some ⟨b4, 0, none⟩)))])
    (fun q => [RowV q.2.2 101 (holesUp l q.1), RowV q.2.1 32 ((l.take q.1).map fun x => smp x.n), Cells b5 28 [Is (.string r.name), Is (.int .i64 r.first), Is q.2.1, Is q.2.2], Cells b4 28 [Is (.string { data := #[] }), Is (.int .i64 0), Is (.slice none 0 0), Is (.slice none 0 0)]])
    (fun q => l.length - q.1) (fun H => ?_) (fun q hq ih => ?_)
  · refine g_ent (e_nilrow (E := 32) (α := F32)) ?_
    refine g_ent (e_nilrow (E := 101) (α := Span)) ?_
    refine g_subF ?_ (H (0, .slice none 0 0, .slice none 0 0) (by simp))
    repeat (first | exact tf_nil | refine tf_cons (by first | exact ot_tmp rfl | exact ot_eq rfl (by first | (simp; done) | (congr 2; omega)) | exact ot_sub (ot_tmp rfl) sl_slf) ?_)
  · obtain ⟨k, v1, v2⟩ := q
    dsimp only at hq ih ⊢
    refine g_seq ?_
    refine gl_region ?_
    refine gl_op t_lss ?_
    refine gl_nil ?_
    refine g_seq ?_
    refine g_cond (ot_tmp rfl) (fun h => ?_) (fun h => ?_)
    · simp at h
      have hsk : SmpR (l.getD k default).n := hs _ (getD_mem h)
      refine g_skip ?_
      refine g_seq ?_
      refine g_block ?_
      refine g_seq ?_
      refine gl_region ?_
      refine gl_op t_move ?_
      refine gl_op t_index ?_
      refine gl_op t_load ?_
      refine gl_opM m_alloc (fun bl => ?_)
      refine gl_op t_assign ?_
      refine gl_opM0 m_store_agg (fun _ => ?_)
      refine gl_nil ?_
      refine g_seq ?_
      refine g_ent (e_cells (s := 7) rfl (by simp [hX, ids])) ?_
      refine gd_region 6 mixed (by kernel_rfl) ?_
      simp only [List.take_succ_cons, List.take_zero, List.drop_succ_cons, List.drop_zero]
      refine dl_op t_fieldM ?_
      refine dl_op t_loadM_one ?_
      refine dl_op t_field ?_
      refine dl_op t_load_one ?_
      refine dl_op (t_call (sample_fn _ hsk)) ?_
      refine dl_op (t_buildSlice (α := F32)) ?_
      refine dl_nil ?_
      refine gl_opM m_append (fun v1' => ?_)
      refine gl_op t_fieldM ?_
      refine gl_opM0 (m_store_row (v := v1') (E' := 32) (xs := ((l.take k).map fun x => smp x.n) ++ [smp (l.getD k default).n]) (by simp)) (fun _ => ?_)
      refine gl_nil ?_
      refine g_seq ?_
      refine gl_region ?_
      refine gl_op t_fieldM ?_
      refine gl_op t_loadM_one ?_
      refine gl_op t_lenRow ?_
      refine gl_op t_assign ?_
      refine gl_nil ?_
      refine g_block ?_
      refine g_seq ?_
      refine gl_region ?_
      refine gl_op t_field ?_
      refine gl_op t_load_one ?_
      refine gl_op t_assign ?_
      refine gl_nil ?_
      refine g_cond (ot_tmp rfl) (fun hkn => ?_) (fun hkn => ?_)
      · refine g_skip ?_
        refine g_inBlock ?_
        refine g_inBlock ?_
        refine gl_region ?_
        refine gl_op t_add ?_
        refine gl_op t_move ?_
        refine gl_nil ?_
        refine g_subF ?_ (g_eqM ?_ (ih (k + 1, v1', v2) (by simp; omega) (by simp; omega)))
        · repeat (first | exact tf_nil | refine tf_cons (by first | exact ot_tmp rfl | exact ot_eq rfl (by first | (simp; done) | (congr 2; omega)) | exact ot_sub (ot_tmp rfl) sl_slf) ?_)
        · dsimp only
          rw [map_take_snoc h, holesUp, holeStep, if_pos hkn]; rfl
      · have hlen0 := holesUp_len l k
        refine g_seq ?_
        refine gl_region ?_
        refine gl_op t_move ?_
        refine gl_op t_gtr ?_
        refine gl_op t_move ?_
        refine gl_guard (hop := fun _ => t_fieldM) (h := ?_)
        refine gl_guard (hop := fun _ => t_loadM_one) (h := ?_)
        refine gl_guard (hop := fun _ => t_move) (h := ?_)
        refine gl_guard (hop := fun _ => t_sub) (h := ?_)
        refine gl_guard (hop := fun hc => t_indexRow (hx := ot_when rfl hc) (hi := ot_when rfl hc) (h0 := by have := of_decide_eq_true hc; omega) (hn := by have := of_decide_eq_true hc; omega) (m := (holesUp l k).length - 1) (hm' := by have := of_decide_eq_true hc; omega)) (h := ?_)
        refine gl_guard (hop := fun hc => t_fieldRow (hx := ot_when rfl hc)) (h := ?_)
        refine gl_guard (hop := fun hc => t_loadRow_one (α := Span) (i := (holesUp l k).length - 1) (j := 1) (hx := ot_when rfl hc) (hi := by have := of_decide_eq_true hc; omega)) (h := ?_)
        refine gl_guard (hop := fun _ => t_move) (h := ?_)
        refine gl_guard (hop := fun _ => t_eql) (h := ?_)
        refine gl_op t_pick_and ?_
        refine gl_op t_assign ?_
        refine gl_nil ?_
        refine g_cond (ot_tmp rfl) (fun hc => ?_) (fun hc => ?_)
        · simp only [Bool.and_eq_true, decide_eq_true_eq] at hc
          obtain ⟨hc1, hc2⟩ := hc
          have hne : holesUp l k ≠ [] := by intro e; rw [e] at hc1; simp at hc1
          refine gl_region ?_
          refine gl_op t_fieldM ?_
          refine gl_op t_loadM_one ?_
          refine gl_op t_move ?_
          refine gl_op t_sub ?_
          refine gl_op (t_indexRow (m := (holesUp l k).length - 1) (hm' := by omega)) ?_
          refine gl_op t_fieldRow ?_
          refine gl_op (t_loadRow_one (α := Span) (i := (holesUp l k).length - 1) (j := 1)) ?_
          refine gl_op t_add ?_
          refine gl_op (t_indexRow (m := (holesUp l k).length - 1) (hm' := by omega)) ?_
          refine gl_op t_fieldRow ?_
          refine gl_opM0 (m_storeRow_one (α := Span) ⟨((holesUp l k).getD ((holesUp l k).length - 1) default).lo, ((holesUp l k).getD ((holesUp l k).length - 1) default).hi + 1⟩ (i := (holesUp l k).length - 1) (j := 1)) (fun _ => ?_)
          refine gl_nil ?_
          refine g_inBlock ?_
          refine g_inBlock ?_
          refine gl_region ?_
          refine gl_op t_add ?_
          refine gl_op t_move ?_
          refine gl_nil ?_
          refine g_subF ?_ (g_eqM ?_ (ih (k + 1, v1', v2) (by simp; omega) (by simp; omega)))
          · repeat (first | exact tf_nil | refine tf_cons (by first | exact ot_tmp rfl | exact ot_eq rfl (by first | (simp; done) | (congr 2; omega)) | exact ot_sub (ot_tmp rfl) sl_slf) ?_)
          · dsimp only
            rw [map_take_snoc h, holesUp, holeStep, if_neg (by rw [hkn]; simp), if_pos ⟨hne, hc2⟩]; rfl
        · simp only [Bool.and_eq_false_iff, decide_eq_false_iff_not] at hc
          refine gl_region ?_
          refine gl_op t_fieldM ?_
          refine gl_op t_loadM_one ?_
          refine gl_op t_move ?_
          refine gl_op t_move ?_
          refine gl_op t_add ?_
          refine gl_op t_build ?_
          refine gl_op (t_buildSlice (α := Span) (xs := [⟨(k : Int), (k : Int) + 1⟩])) ?_
          refine gl_opM m_append (fun v2' => ?_)
          refine gl_op t_fieldM ?_
          refine gl_opM0 (m_store_row (v := v2') (E' := 101) (xs := holesUp l k ++ [⟨(k : Int), (k : Int) + 1⟩]) (by simp)) (fun _ => ?_)
          refine gl_nil ?_
          refine g_inBlock ?_
          refine g_inBlock ?_
          refine gl_region ?_
          refine gl_op t_add ?_
          refine gl_op t_move ?_
          refine gl_nil ?_
          refine g_subF ?_ (g_eqM ?_ (ih (k + 1, v1', v2') (by simp; omega) (by simp; omega)))
          · repeat (first | exact tf_nil | refine tf_cons (by first | exact ot_tmp rfl | exact ot_eq rfl (by first | (simp; done) | (congr 2; omega)) | exact ot_sub (ot_tmp rfl) sl_slf) ?_)
          · dsimp only
            have hnc : ¬ (holesUp l k ≠ [] ∧ ((holesUp l k).getD ((holesUp l k).length - 1) default).hi = k) := by
              rintro ⟨h1, h2⟩
              have := List.length_pos_iff.2 h1
              rcases hc with hc | hc
              · omega
              · exact hc h2
            rw [map_take_snoc h, holesUp, holeStep, if_neg (by rw [hkn]; simp), if_neg hnc]; rfl
    · simp at h
      have hk : k = l.length := by omega
      subst hk
      refine g_ent (e_rowIn (v := v1) (E := 32) (xs := (l.take l.length).map fun x => smp x.n) (b := b5) (E0 := 28) (j := 2) hX) ?_
      refine g_ent (e_rowIn (v := v2) (E := 101) (xs := holesUp l l.length) (b := b5) (E0 := 28) (j := 3) hX) ?_
      refine g_exit rfl ?_
      refine g_seq ?_
      refine gl_region ?_
      refine gl_op t_loadM_agg ?_
      refine gl_opM0 m_store_agg (fun _ => ?_)
      refine gl_nil ?_
      refine g_ent (e_cells (s := 4) rfl (by simp [hX, ids])) ?_
      rw [List.take_length]
      refine g_ent (e_drop (r := Cells b5 28 _)) ?_
      refine g_ret Try.func73 () (res_one Try.results73 (rv_va (α := Run) ?_)) (.inl rfl)
      rfl
end Go.Proofs.Ytkoinfegbkigcaa
