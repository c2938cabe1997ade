/- A part of the proof: contracts of functions of the program, each for the inputs that its premises name. -/
import Derived.Test.YtkoinfegbkigcaaRtT3
namespace Go.Proofs.Ytkoinfegbkigcaa
open Go.Rt
set_option maxHeartbeats 400000

theorem mapped134_fn (xs : List F32) (p : F32 → Prop) (g : F32 → Reading) (hp : ∀ x ∈ xs, p x) (hlen : xs.length ≤ 1000000) : SpecR Try.prog 134 [Sl xs, FnV Try.prog (ι := {x : F32 // p x}) (fun x => [Va x.1]) (fun x => Va (g x.1))] [] Value Is (fun v => [RowV v 158 (xs.map g)]) := by
  refine spec_enter Try.func134 rfl Try.ntmps134 Try.call134 (by simp) fun C hX => ?_
  refine g_seq ?_
  refine gl_region ?_
  refine gl_op t_assign ?_
  refine gl_nil ?_
  refine g_seq ?_
  refine gl_region ?_
  refine gl_op t_assign ?_
  refine gl_nil ?_
  refine g_seq ?_
  refine g_seq ?_
  refine gl_region ?_
  refine gl_op t_move ?_
  refine gl_op t_len ?_
  refine gl_op t_move ?_
  refine gl_nil ?_
  refine g_block ?_
  refine g_loop (fun p : Nat × Value => p.1 ≤ xs.length) (fun q => [(5, Is q.2), (10, Is (.int .i64 q.1)), (8, Sl xs), (9, Is (.int .i64 xs.length)), (1, FnV Try.prog (ι := {x : F32 // p x}) (fun x => [Va x.1]) (fun x => Va (g x.1)))]) (fun q => [RowV q.2 158 ((xs.take q.1).map g)]) (fun q => xs.length - q.1) (fun H => ?_) (fun q hk ih => ?_)
  · refine g_ent (e_nilrow (E := 158) (α := Reading)) ?_
    refine g_subF ?_ (H (0, .slice none 0 0) (by simp))
    repeat (first | exact tf_nil | refine tf_cons (by first | exact ot_tmp rfl | exact ot_eq rfl (by first | (simp; done) | (congr 2; omega)) | exact ot_sub (ot_tmp rfl) sl_slf) ?_)
  · obtain ⟨k, v⟩ := q
    refine g_seq ?_
    refine gl_region ?_
    refine gl_op t_lss ?_
    refine gl_nil ?_
    refine g_seq ?_
    refine g_cond (ot_tmp rfl) (fun h => ?_) (fun h => ?_)
    · simp at h hk
      have hx : xs.getD k default ∈ xs := getD_mem h
      refine g_skip ?_
      refine g_seq ?_
      refine g_block ?_
      refine g_seq ?_
      refine gl_region ?_
      refine gl_op t_index ?_
      refine gl_op t_load_one ?_
      refine gl_op t_assign ?_
      refine gl_nil ?_
      refine gl_region ?_
      refine gl_op t_move ?_
      refine gl_op t_move ?_
      refine gl_op t_move ?_
      refine gl_op (t_calldyn (⟨xs.getD k default, hp _ hx⟩ : {x : F32 // p x})) ?_
      refine gl_op (t_buildSlice (α := Reading)) ?_
      refine gl_opM m_append (fun v' => ?_)
      refine gl_op t_assign ?_
      refine gl_nil ?_
      refine g_inBlock ?_
      refine gl_region ?_
      refine gl_op t_add ?_
      refine gl_op t_move ?_
      refine gl_nil ?_
      refine g_subF ?_ (g_eqM (M' := [RowV v' 158 ((xs.take (k + 1)).map g)]) ?_ (ih (k + 1, v') (by simp; omega) (by simp; omega)))
      · repeat (first | exact tf_nil | refine tf_cons (by first | exact ot_tmp rfl | exact ot_eq rfl (by first | (simp; done) | (congr 2; omega)) | exact ot_sub (ot_tmp rfl) sl_slf) ?_)
      · rw [map_take_snoc h]
    · simp at h hk
      refine g_exit rfl ?_
      refine g_seq ?_
      refine gl_region ?_
      refine gl_op t_move ?_
      refine gl_op t_assign ?_
      refine gl_nil ?_
      rw [List.take_of_length_le (by simp; omega)]
      exact g_ret Try.func134 v (res1 Try.results134 rfl) (.inl rfl)

def inHole (hs : List Span) (i : Int) : Bool := hs.any fun h => decide (h.lo ≤ i ∧ i < h.hi)
/-- The readings of a run. -/
def rds (r : Run) : List Reading := (List.range r.xs.length).map fun (i : Nat) => if inHole r.hs i then ⟨0, false⟩ else ⟨(r.xs.getD i default).val, true⟩
theorem rds_len (r : Run) : (rds r).length = r.xs.length := by simp [rds]
theorem rds_get (r : Run) {i : Nat} (h : i < r.xs.length) : (rds r).getD i default = if inHole r.hs i then ⟨0, false⟩ else ⟨(r.xs.getD i default).val, true⟩ := by
  simp [rds, List.getD, h]

theorem ext_getD {α : Type} [Inhabited α] {xs ys : List α} (h1 : xs.length = ys.length) (h2 : ∀ i, i < xs.length → xs.getD i default = ys.getD i default) : xs = ys := by
  apply List.ext_getElem h1
  intro i h3 h4
  have := h2 i h3
  simpa [List.getD, h3, h4] using this

theorem inHole_take_succ {hs : List Span} {k : Nat} (h : k < hs.length) (i : Int) : inHole (hs.take (k + 1)) i = (inHole (hs.take k) i || decide ((hs.getD k default).lo ≤ i ∧ i < (hs.getD k default).hi)) := by
  rw [take_snoc h]; simp [inHole]

theorem getD_set {α : Type} [Inhabited α] (l : List α) (i j : Nat) (a : α) (hi : i < l.length) : (l.set i a).getD j default = if j = i then a else l.getD j default := by
  simp only [List.getD, List.getElem?_set]
  by_cases h : i = j
  · subst h; simp [hi]
  · simp [h, Ne.symm h]

theorem readings_fn (r : Run) (hr : RunOk r) : SpecR Try.prog 70 [Va r] [] Value Is (fun v => [RowV v 158 (rds r)]) := by
  have hlen := hr.len
  have hhl := hr.hlen
  have h135 : ∀ x : {x : F32 // Good x}, FnS Try.prog 135 [Va x.1] (Va ((fun x : F32 => Reading.mk x.val true) x.1)) := fun x => reading_fn _ x.2
  refine spec_enter Try.func70 rfl Try.ntmps70 Try.call70 (by simp) fun C hX => ?_
  refine g_seq ?_
  refine gl_region ?_
  refine gl_op t_box ?_
  refine gl_op t_assign ?_
  refine gl_nil ?_
  refine g_seq ?_
  refine gl_region ?_
  refine gl_op t_field ?_
  refine gl_op t_load_one ?_
  refine gl_opM (m_callR (mapped134_fn r.xs Good (fun x => Reading.mk x.val true) hr.good (by omega)) (hx := by exact ⟨ot_tmp rfl, ot_fn h135, trivial⟩)) (fun v => ?_)
  refine gl_op t_assign ?_
  refine gl_nil ?_
  refine g_seq ?_
  refine g_seq ?_
  refine gl_region ?_
  refine gl_op t_field ?_
  refine gl_op t_load_one ?_
  refine gl_op t_len ?_
  refine gl_op t_move ?_
  refine gl_nil ?_
  refine g_block ?_
  refine g_loop (fun p : Nat × List Reading => p.1 ≤ r.hs.length ∧ p.2.length = r.xs.length ∧ ∀ i, i < r.xs.length → p.2.getD i default = if inHole (r.hs.take p.1) i then ⟨0, false⟩ else ⟨(r.xs.getD i default).val, true⟩)
    (fun p => [(13, Is (.int .i64 p.1)), (12, Is (.int .i64 r.hs.length)), (11, Sl r.hs), (3, Is v)]) (fun p => [RowV v 158 p.2]) (fun p => r.hs.length - p.1) (fun H => ?_) (fun p hp ih => ?_)
  · refine g_subF ?_ (H (0, r.xs.map fun x => Reading.mk x.val true) ⟨by simp, by simp, fun i hi => by simp [List.getD, hi, inHole]⟩)
    repeat (first | exact tf_nil | refine tf_cons (by first | exact ot_tmp rfl | exact ot_eq rfl (by first | (simp; done) | (congr 2; omega)) | exact ot_sub (ot_tmp rfl) sl_slf) ?_)
  · obtain ⟨k, l⟩ := p
    obtain ⟨hk, hl1, hl2⟩ := hp
    dsimp only at hk hl1 hl2 ih ⊢
    refine g_seq ?_
    refine gl_region ?_
    refine gl_op t_lss ?_
    refine gl_nil ?_
    refine g_seq ?_
    refine g_cond (ot_tmp rfl) (fun h => ?_) (fun h => ?_)
    · simp at h
      obtain ⟨a2, a3, a4⟩ := hr.holes.at _ (getD_mem h)
      refine g_skip ?_
      refine g_seq ?_
      refine g_block ?_
      refine g_seq ?_
      refine gl_region ?_
      refine gl_op t_index ?_
      refine gl_op t_load ?_
      refine gl_opM m_alloc (fun bl => ?_)
      refine gl_opM0 m_store_agg (fun _ => ?_)
      refine gl_nil ?_
      refine g_seq ?_
      refine gl_region ?_
      refine gl_op t_fieldM ?_
      refine gl_op t_loadM_one ?_
      refine gl_op t_fieldM ?_
      refine gl_op t_loadM_one ?_
      refine gl_op t_sub ?_
      refine gl_op t_move ?_
      refine gl_nil ?_
      refine g_block ?_
      refine g_ent (e_cells (s := 5) rfl (by simp [hX, ids])) ?_
      refine g_loop (fun p : Nat × List Reading => (p.1 : Int) ≤ (r.hs.getD k default).hi - (r.hs.getD k default).lo ∧ p.2.length = r.xs.length ∧ ∀ i, i < r.xs.length → p.2.getD i default = if inHole (r.hs.take k) i || decide ((r.hs.getD k default).lo ≤ i ∧ (i : Int) < (r.hs.getD k default).lo + p.1) then ⟨0, false⟩ else ⟨(r.xs.getD i default).val, true⟩)
        (fun p => [(22, Is (.int .i64 p.1)), (21, Is (.int .i64 ((r.hs.getD k default).hi - (r.hs.getD k default).lo))), (5, PtrTo (Enc.ty (r.hs.getD k default))), (13, Is (.int .i64 k)), (12, Is (.int .i64 r.hs.length)), (11, Sl r.hs), (3, Is v)]) (fun p => [RowV v 158 p.2]) (fun p => ((r.hs.getD k default).hi - (r.hs.getD k default).lo).toNat - p.1) (fun H => ?_) (fun p hp ih2 => ?_)
      · refine g_subF ?_ (H (0, l) ⟨by simp only []; omega, hl1, fun i hi => by rw [hl2 i hi]; simp only []; rw [show decide ((r.hs.getD k default).lo ≤ (i : Int) ∧ (i : Int) < (r.hs.getD k default).lo + ((0 : Nat) : Int)) = false from by simp only [decide_eq_false_iff_not]; omega, Bool.or_false]⟩)
        repeat (first | exact tf_nil | refine tf_cons (by first | exact ot_tmp rfl | exact ot_eq rfl (by first | (simp; done) | (congr 2; omega)) | exact ot_sub (ot_tmp rfl) sl_slf) ?_)
      · obtain ⟨j, l'⟩ := p
        obtain ⟨hj, hl1', hl2'⟩ := hp
        dsimp only at hj hl1' hl2' ih2 ⊢
        refine g_seq ?_
        refine gl_region ?_
        refine gl_op t_lss ?_
        refine gl_nil ?_
        refine g_seq ?_
        refine g_cond (ot_tmp rfl) (fun h3 => ?_) (fun h3 => ?_)
        · simp only [decide_eq_true_eq] at h3
          obtain ⟨q, hq⟩ : ∃ q : Nat, (r.hs.getD k default).lo + (j : Int) = q := ⟨((r.hs.getD k default).lo + j).toNat, by omega⟩
          refine g_skip ?_
          refine g_seq ?_
          refine g_block ?_
          refine g_seq ?_
          refine gl_region ?_
          refine gl_op t_move ?_
          refine gl_op t_assign ?_
          refine gl_nil ?_
          refine gl_region ?_
          refine gl_op t_move ?_
          refine gl_op t_field ?_
          refine gl_op t_load_one ?_
          refine gl_op t_move ?_
          refine gl_op t_add ?_
          refine gl_op t_build ?_
          refine gl_op (t_indexRow (n := (r.hs.getD k default).lo + (j : Int)) (m := q) (hm' := by omega)) ?_
          refine gl_opM0 (m_storeRow (i := q) (a := Reading.mk 0 false) (hy := oc_agg (ot_tmp rfl))) (fun _ => ?_)
          refine gl_nil ?_
          refine g_inBlock ?_
          refine gl_region ?_
          refine gl_op t_add ?_
          refine gl_op t_move ?_
          refine gl_nil ?_
          refine g_subF ?_ (ih2 (j + 1, l'.set q (Reading.mk 0 false)) ⟨by simp only []; omega, by simp [hl1'], fun i hi => ?_⟩ (by simp only []; omega))
          · repeat (first | exact tf_nil | refine tf_cons (by first | exact ot_tmp rfl | exact ot_eq rfl (by first | (simp; done) | (congr 2; omega)) | exact ot_sub (ot_tmp rfl) sl_slf) ?_)
          · dsimp only
            rw [getD_set _ _ _ _ (by omega), hl2' i hi]
            by_cases hiq : i = q
            · rw [if_pos hiq, if_pos]
              subst hiq
              simp only [Bool.or_eq_true, decide_eq_true_eq]; right; omega
            · rw [if_neg hiq]
              congr 2
              rw [decide_eq_decide.2]
              omega
        · simp only [decide_eq_false_iff_not] at h3
          refine g_exit rfl ?_
          refine g_inBlock ?_
          refine gl_region ?_
          refine gl_op t_add ?_
          refine gl_op t_move ?_
          refine gl_nil ?_
          refine g_subF ?_ (ih (k + 1, l') ⟨by simp; omega, hl1', fun i hi => ?_⟩ (by simp; omega))
          · repeat (first | exact tf_nil | refine tf_cons (by first | exact ot_tmp rfl | exact ot_eq rfl (by first | (simp; done) | (congr 2; omega)) | exact ot_sub (ot_tmp rfl) sl_slf) ?_)
          · dsimp only
            rw [hl2' i hi, inHole_take_succ h]
            congr 3
            rw [decide_eq_decide.2]
            omega
    · simp at h
      refine g_exit rfl ?_
      refine g_seq ?_
      refine gl_region ?_
      refine gl_op t_move ?_
      refine gl_op t_assign ?_
      refine gl_nil ?_
      refine g_eqM (M' := [RowV v 158 (rds r)]) ?_ ?_
      · congr 2
        refine (ext_getD (by rw [rds_len, hl1]) fun i hi => ?_).symm
        rw [hl2 i (by omega), rds_get r (by omega), List.take_of_length_le (by omega)]
      · exact g_ret Try.func70 v (res1 Try.results70 rfl) (.inl rfl)

theorem readings_fz (r : Run) (hr : RunOk r) : FnS Try.prog 70 [Va r] (Sl (rds r)) := spec_freeze (readings_fn r hr)

end Go.Proofs.Ytkoinfegbkigcaa
