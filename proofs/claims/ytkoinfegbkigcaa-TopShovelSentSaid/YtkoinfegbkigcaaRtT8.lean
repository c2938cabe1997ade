/- A part of the proof: contracts of functions of the program, each for the inputs that its premises name. -/
import Derived.Test.YtkoinfegbkigcaaRtT7
namespace Go.Proofs.Ytkoinfegbkigcaa
open Go.Rt
set_option maxHeartbeats 400000

/-- A quotient, rounded. -/
def rnd (num den : Int) : Int := if (2 * num + den).tdiv (2 * den) * (2 * den) > 2 * num + den then (2 * num + den).tdiv (2 * den) - 1 else (2 * num + den).tdiv (2 * den)

theorem tdiv_mul_bound (a b : Int) (hb : 0 < b) : a - b < a.tdiv b * b ∧ a.tdiv b * b < a + b := by
  have h1 := Int.mul_tdiv_add_tmod a b
  have h2 := Int.tmod_lt_of_pos a hb
  have h3 : -b < a.tmod b := by
    have := Int.lt_tmod_of_pos a hb
    omega
  rw [Int.mul_comm] at h1
  omega

theorem tdiv_bound (a b : Int) (_hb : 0 < b) (N : Int) (h : -N ≤ a ∧ a ≤ N) : -N ≤ a.tdiv b ∧ a.tdiv b ≤ N := by
  have h1 := Int.natAbs_tdiv_le_natAbs a b
  omega

theorem rounded_fn (num den : Int) (h1 : -1000000000000 ≤ num ∧ num ≤ 1000000000000) (h2 : 0 < den ∧ den ≤ 1000000) : FnS Try.prog 104 [Va num, Va den] (Va (rnd num den)) := by
  have hb := tdiv_mul_bound (2 * num + den) (2 * den) (by omega)
  have hc := tdiv_bound (2 * num + den) (2 * den) (by omega) 3000000000000 (by omega)
  refine spec_enter Try.func104 rfl Try.ntmps104 Try.call104 (by simp) fun C hX => ?_
  refine g_seq ?_
  refine gl_region ?_
  refine gl_op t_assign ?_
  refine gl_nil ?_
  refine g_seq ?_
  refine gl_region ?_
  refine gl_op t_move ?_
  refine gl_op t_mul ?_
  refine gl_op t_move ?_
  refine gl_op t_add ?_
  refine gl_op t_move ?_
  refine gl_op t_mul ?_
  refine gl_op t_assign ?_
  refine gl_op t_assign ?_
  refine gl_nil ?_
  refine g_seq ?_
  refine gl_region ?_
  refine gl_op t_move ?_
  refine gl_op t_move ?_
  refine gl_op t_quo ?_
  refine gl_op t_assign ?_
  refine gl_nil ?_
  refine g_seq ?_
  refine g_seq ?_
  refine gl_region ?_
  refine gl_op t_move ?_
  refine gl_op t_move ?_
  refine gl_op (t_mul (b := 2 * den) (hb := by omega)) ?_
  refine gl_op t_move ?_
  refine gl_op t_gtr ?_
  refine gl_nil ?_
  refine g_cond (ot_tmp rfl) (fun h => ?_) (fun h => ?_)
  · simp only [decide_eq_true_eq] at h
    refine gl_region ?_
    refine gl_op t_move ?_
    refine gl_op t_sub ?_
    refine gl_op t_assign ?_
    refine gl_nil ?_
    refine g_seq ?_
    refine gl_region ?_
    refine gl_op t_move ?_
    refine gl_op t_assign ?_
    refine gl_nil ?_
    refine g_ret Try.func104 () (res1e Try.results104 rfl ?_) (.inl rfl)
    unfold rnd
    rw [if_pos h]; rfl
  · simp only [decide_eq_false_iff_not] at h
    refine g_skip ?_
    refine g_seq ?_
    refine gl_region ?_
    refine gl_op t_move ?_
    refine gl_op t_assign ?_
    refine gl_nil ?_
    refine g_ret Try.func104 () (res1e Try.results104 rfl ?_) (.inl rfl)
    unfold rnd
    rw [if_neg h]; rfl

/-- A hole's first j readings, filled. -/
def fillN (l : List Reading) (h : Span) (f t : Int) : Nat → List Reading
  | 0 => l
  | j + 1 => (fillN l h f t j).set (h.lo.toNat + j) ⟨f + rnd ((t - f) * (j + 1)) (h.hi - h.lo + 1), true⟩
theorem fillN_len (l : List Reading) (h : Span) (f t : Int) : ∀ j, (fillN l h f t j).length = l.length
  | 0 => rfl
  | j + 1 => by simp [fillN, fillN_len l h f t j]
def fillOne (m : Int) (l : List Reading) (h : Span) : List Reading :=
  if h.hi - h.lo > m ∨ h.lo = 0 ∨ h.hi = l.length then l else fillN l h (l.getD (h.lo.toNat - 1) default).n (l.getD h.hi.toNat default).n (h.hi - h.lo).toNat
theorem fillOne_len (m : Int) (l : List Reading) (h : Span) : (fillOne m l h).length = l.length := by
  unfold fillOne; split
  · rfl
  · exact fillN_len _ _ _ _ _
def fillUp (m : Int) (r : Run) (k : Nat) : List Reading := (r.hs.take k).foldl (fillOne m) (rds r)
theorem fillUp_succ (m : Int) (r : Run) {k : Nat} (h : k < r.hs.length) : fillUp m r (k + 1) = fillOne m (fillUp m r k) (r.hs.getD k default) := by
  unfold fillUp; rw [take_snoc h, List.foldl_append]; rfl
theorem fillUp_len (m : Int) (r : Run) : ∀ k, k ≤ r.hs.length → (fillUp m r k).length = r.xs.length
  | 0, _ => by simp [fillUp, rds_len]
  | k + 1, h => by rw [fillUp_succ m r (by omega), fillOne_len, fillUp_len m r k (by omega)]

theorem filled_fn (r : Run) (hr : RunOk r) (m : Int) (hm : 0 ≤ m ∧ m ≤ 4096) (hsm : ∀ k, k ≤ r.hs.length → ∀ x ∈ fillUp m r k, SmpR x.n) :
    FnS Try.prog 54 [Va r, Va m] (Tup [Va (Run.mk r.name r.first ((fillUp m r r.hs.length).map fun x => smp x.n) (holesOf (fillUp m r r.hs.length))), Va (0 : Int)]) := by
  have hlen := hr.len
  have hhl := hr.hlen
  refine spec_enter Try.func54 rfl Try.ntmps54 Try.call54 (by simp) fun C hX => ?_
  refine g_seq ?_
  refine gl_region ?_
  refine gl_op t_box ?_
  refine gl_opM m_alloc (fun bl => ?_)
  refine gl_op t_assign ?_
  refine gl_nil ?_
  refine g_seq ?_
  refine g_seq ?_
  refine gl_region ?_
  refine gl_op t_loadV ?_
  refine gl_op (t_call (checkRun_fn _ hr)) ?_
  refine gl_op t_move ?_
  refine gl_op (t_call (within_fn _ _ _)) ?_
  refine gl_op (t_buildSlice (α := Int)) ?_
  refine gl_op (t_call (first_fn _)) ?_
  refine gl_op t_assign ?_
  refine gl_nil ?_
  refine g_seq ?_
  refine gl_region ?_
  refine gl_op t_move ?_
  refine gl_op t_neq ?_
  refine gl_nil ?_
  refine g_cond (ot_tmp rfl) (fun h => ?_) (fun _ => ?_)
  · simp [firstE] at h
    omega
  refine g_skip ?_
  refine g_seq ?_
  refine gl_region ?_
  refine gl_op t_loadV ?_
  refine gl_opM (m_callR (readings_fn _ hr)) (fun v => ?_)
  refine gl_op t_assign ?_
  refine gl_nil ?_
  refine g_seq ?_
  refine g_seq ?_
  refine gl_region ?_
  refine gl_op t_field ?_
  refine gl_op t_load_one ?_
  refine gl_op t_len ?_
  refine gl_op t_move ?_
  refine gl_nil ?_
  refine g_block ?_
  revert bl; intro b4
  refine g_loop (fun k : Nat => k ≤ r.hs.length) (fun k => [(29, Is (.int .i64 k)), (28, Is (.int .i64 r.hs.length)), (27, Sl r.hs), (7, Is v), (1, Is (.int .i64 m)), (2, PtrTo (Enc.ty r)), (4, Is (.pointer (some ⟨b4, 0, none⟩)))]) (fun k => [RowV v 158 (fillUp m r k), Cells b4 28 [Is (.string { data := #[] }), Is (.int .i64 0), Is (.slice none 0 0), Is (.slice none 0 0)]]) (fun k => r.hs.length - k) (fun H => ?_) (fun k hk ih => ?_)
  · refine g_subF ?_ (H 0 (by simp))
    repeat (first | exact tf_nil | refine tf_cons (by first | exact ot_tmp rfl | exact ot_eq rfl (by first | (simp; done) | (congr 2; omega)) | exact ot_sub (ot_tmp rfl) sl_slf) ?_)
  · have hfl := fillUp_len m r k hk
    refine g_seq ?_
    refine gl_region ?_
    refine gl_op t_lss ?_
    refine gl_nil ?_
    refine g_seq ?_
    refine g_cond (ot_tmp rfl) (fun h => ?_) (fun h => ?_)
    · simp at h
      obtain ⟨a2, a3, a4⟩ := hr.holes.at _ (getD_mem h)
      refine g_skip ?_
      refine g_seq ?_
      refine g_block ?_
      refine g_seq ?_
      refine gl_region ?_
      refine gl_op t_index ?_
      refine gl_op t_load ?_
      refine gl_opM m_alloc (fun bl => ?_)
      refine gl_opM0 m_store_agg (fun _ => ?_)
      refine gl_nil ?_
      refine g_seq ?_
      refine gl_region ?_
      refine gl_op t_fieldM ?_
      refine gl_op t_loadM_one ?_
      refine gl_op t_fieldM ?_
      refine gl_op t_loadM_one ?_
      refine gl_op t_sub ?_
      refine gl_op t_assign ?_
      refine gl_nil ?_
      refine g_seq ?_
      refine g_seq ?_
      refine gl_region ?_
      refine gl_op t_move ?_
      refine gl_op t_move ?_
      refine gl_op t_gtr ?_
      refine gl_op t_move ?_
      refine gl_guard (hop := fun _ => t_fieldM) (h := ?_)
      refine gl_guard (hop := fun _ => t_loadM_one) (h := ?_)
      refine gl_guard (hop := fun _ => t_eql) (h := ?_)
      refine gl_op t_pick_or ?_
      refine gl_op t_move ?_
      refine gl_guard (hop := fun _ => t_fieldM) (h := ?_)
      refine gl_guard (hop := fun _ => t_loadM_one) (h := ?_)
      refine gl_guard (hop := fun _ => t_move) (h := ?_)
      refine gl_guard (hop := fun _ => (t_lenRow (hx := ot_when rfl (by assumption)))) (h := ?_)
      refine gl_guard (hop := fun _ => t_eql) (h := ?_)
      refine gl_op t_pick_or ?_
      refine gl_nil ?_
      refine g_ent (e_cells (s := 9) rfl (by simp [hX, ids])) ?_
      obtain ⟨q, hq⟩ : ∃ q, q = r.hs.getD k default := ⟨_, rfl⟩
      rw [← hq] at a2 a3 a4 ⊢
      refine g_cond (ot_tmp rfl) (fun hc => ?_) (fun hc => ?_)
      · simp only [Bool.or_eq_true, decide_eq_true_eq] at hc
        refine g_exit rfl ?_
        refine gl_region ?_
        refine gl_op t_add ?_
        refine gl_op t_move ?_
        refine gl_nil ?_
        refine g_subF ?_ (g_eqM ?_ (ih (k + 1) (by omega) (by omega)))
        · repeat (first | exact tf_nil | refine tf_cons (by first | exact ot_tmp rfl | exact ot_eq rfl (by first | (simp; done) | (congr 2; omega)) | exact ot_sub (ot_tmp rfl) sl_slf) ?_)
        · rw [fillUp_succ m r h, ← hq, fillOne, if_pos (by omega)]
      · simp only [Bool.or_eq_false_iff, decide_eq_false_iff_not] at hc
        obtain ⟨⟨c1, c2⟩, c3⟩ := hc
        have hL : SmpR ((fillUp m r k).getD (q.lo.toNat - 1) default).n := hsm k hk _ (getD_mem (by omega))
        have hH : SmpR ((fillUp m r k).getD q.hi.toNat default).n := hsm k hk _ (getD_mem (by omega))
        refine g_skip ?_
        refine g_seq ?_
        refine gd_region 14 mixed (by kernel_rfl) ?_
        simp only [List.take_succ_cons, List.take_zero, List.drop_succ_cons, List.drop_zero]
        refine dl_op t_move ?_
        refine dl_op t_field ?_
        refine dl_op t_load_one ?_
        refine dl_op t_sub ?_
        refine dl_op (t_indexRow (n := q.lo - 1) (m := q.lo.toNat - 1) (hm' := by omega)) ?_
        refine dl_op t_fieldRow ?_
        refine dl_op (t_loadRow_one (α := Reading) (i := q.lo.toNat - 1) (j := 0)) ?_
        refine dl_op t_move ?_
        refine dl_op t_field ?_
        refine dl_op t_load_one ?_
        refine dl_op (t_indexRow (n := q.hi) (m := q.hi.toNat)) ?_
        refine dl_op t_fieldRow ?_
        refine dl_op (t_loadRow_one (α := Reading) (i := q.hi.toNat) (j := 0)) ?_
        refine dl_op t_assign ?_
        refine dl_nil ?_
        refine gl_op t_assign ?_
        refine gl_nil ?_
        refine g_seq ?_
        refine gl_region ?_
        refine gl_op t_move ?_
        refine gl_op t_move ?_
        refine gl_nil ?_
        refine g_block ?_
        obtain ⟨f, hf⟩ : ∃ f, f = ((fillUp m r k).getD (q.lo.toNat - 1) default).n := ⟨_, rfl⟩
        obtain ⟨t, ht⟩ : ∃ t, t = ((fillUp m r k).getD q.hi.toNat default).n := ⟨_, rfl⟩
        rw [← hf] at hL
        rw [← ht] at hH
        unfold SmpR at hL hH
        refine g_loop (fun j : Nat => (j : Int) ≤ q.hi - q.lo) (fun j => [(67, Is (.int .i64 j)), (66, Is (.int .i64 (q.hi - q.lo))), (10, Is (.int .i64 (q.hi - q.lo))), (11, Is (.int .i64 f)), (12, Is (.int .i64 t)), (9, PtrTo (Enc.ty q)),
            (29, Is (.int .i64 k)), (28, Is (.int .i64 r.hs.length)), (27, Sl r.hs), (7, Is v), (1, Is (.int .i64 m)), (2, PtrTo (Enc.ty r)), (4, Is (.pointer (some ⟨b4, 0, none⟩)))])
          (fun j => [RowV v 158 (fillN (fillUp m r k) q f t j), Cells b4 28 [Is (.string { data := #[] }), Is (.int .i64 0), Is (.slice none 0 0), Is (.slice none 0 0)]]) (fun j => (q.hi - q.lo).toNat - j) (fun H => ?_) (fun j hj ih2 => ?_)
        · refine g_subF ?_ (H 0 (by omega))
          repeat (first | exact tf_nil | refine tf_cons (by first | exact ot_tmp rfl | exact ot_eq rfl (by rw [hf]) | exact ot_eq rfl (by rw [ht])) ?_)
        · have hnl := fillN_len (fillUp m r k) q f t j
          refine g_seq ?_
          refine gl_region ?_
          refine gl_op t_lss ?_
          refine gl_nil ?_
          refine g_seq ?_
          refine g_cond (ot_tmp rfl) (fun h3 => ?_) (fun h3 => ?_)
          · simp only [decide_eq_true_eq] at h3
            have hm1 : -(256 * 4097) ≤ (t - f) * ((j : Int) + 1) ∧ (t - f) * ((j : Int) + 1) ≤ 256 * 4097 := by
              have e1 : (t - f) * ((j : Int) + 1) ≤ 256 * ((j : Int) + 1) := Int.mul_le_mul_of_nonneg_right (by omega) (by omega)
              have e2 : -256 * ((j : Int) + 1) ≤ (t - f) * ((j : Int) + 1) := Int.mul_le_mul_of_nonneg_right (by omega) (by omega)
              omega
            have hrb := tdiv_bound (2 * ((t - f) * ((j : Int) + 1)) + (q.hi - q.lo + 1)) (2 * (q.hi - q.lo + 1)) (by omega) 3000000 (by omega)
            have hrr : -3000001 ≤ rnd ((t - f) * ((j : Int) + 1)) (q.hi - q.lo + 1) ∧ rnd ((t - f) * ((j : Int) + 1)) (q.hi - q.lo + 1) ≤ 3000000 := by
              unfold rnd; split <;> omega
            refine g_skip ?_
            refine g_seq ?_
            refine g_block ?_
            refine g_seq ?_
            refine gl_region ?_
            refine gl_op t_move ?_
            refine gl_op t_assign ?_
            refine gl_nil ?_
            refine gd_region 17 mixed (by kernel_rfl) ?_
            simp only [List.take_succ_cons, List.take_zero, List.drop_succ_cons, List.drop_zero]
            refine dl_op t_move ?_
            refine dl_op t_field ?_
            refine dl_op t_load_one ?_
            refine dl_op t_move ?_
            refine dl_op t_add ?_
            refine dl_op t_move ?_
            refine dl_op t_move ?_
            refine dl_op t_move ?_
            refine dl_op t_sub ?_
            refine dl_op t_move ?_
            refine dl_op t_add ?_
            refine dl_op (t_mul (hb := by omega)) ?_
            refine dl_op t_move ?_
            refine dl_op t_add ?_
            refine dl_op (t_call (rounded_fn ((t - f) * ((j : Int) + 1)) (q.hi - q.lo + 1) (by omega) (by omega))) ?_
            refine dl_op t_add ?_
            refine dl_op t_build ?_
            refine dl_nil ?_
            refine gl_op (t_indexRow (n := q.lo + (j : Int)) (m := q.lo.toNat + j) (h0 := by omega) (hn := by omega) (hm' := by omega)) ?_
            refine gl_opM0 (m_storeRow (i := q.lo.toNat + j) (a := Reading.mk (f + rnd ((t - f) * ((j : Int) + 1)) (q.hi - q.lo + 1)) true) (hy := oc_agg (ot_tmp rfl))) (fun _ => ?_)
            refine gl_nil ?_
            refine g_inBlock ?_
            refine gl_region ?_
            refine gl_op t_add ?_
            refine gl_op t_move ?_
            refine gl_nil ?_
            refine g_subF ?_ (ih2 (j + 1) (by omega) (by omega))
            repeat (first | exact tf_nil | refine tf_cons (by first | exact ot_tmp rfl | exact ot_eq rfl (by first | (simp; done) | (congr 2; omega)) | exact ot_sub (ot_tmp rfl) sl_slf) ?_)
          · simp only [decide_eq_false_iff_not] at h3
            refine g_exit rfl ?_
            refine g_inBlock ?_
            refine gl_region ?_
            refine gl_op t_add ?_
            refine gl_op t_move ?_
            refine gl_nil ?_
            refine g_subF ?_ (g_eqM ?_ (ih (k + 1) (by omega) (by omega)))
            · repeat (first | exact tf_nil | refine tf_cons (by first | exact ot_tmp rfl | exact ot_eq rfl (by first | (simp; done) | (congr 2; omega)) | exact ot_sub (ot_tmp rfl) sl_slf) ?_)
            · rw [fillUp_succ m r h, ← hq, fillOne, if_neg (by omega), ← hf, ← ht, show (q.hi - q.lo).toNat = j from by omega]
    · simp at h
      have hkk : k = r.hs.length := by omega
      subst hkk
      refine g_exit rfl ?_
      refine g_seq ?_
      refine gl_region ?_
      refine gl_op t_loadV ?_
      refine gl_op t_move ?_
      refine gl_ent (e_row (s := 91) rfl hX) ?_
      refine gl_op (t_call (with_fn r _ (by omega) (hsm _ (Nat.le_refl _)))) ?_
      refine gl_opM0 m_store_agg (fun _ => ?_)
      refine gl_op t_assign ?_
      refine gl_nil ?_
      refine g_ent (e_cells (s := 4) rfl (by simp [hX, ids])) ?_
      exact g_ret Try.func54 () (res_two Try.results54 (rv_va rfl) (rv_tmp rfl)) (.inl rfl)

end Go.Proofs.Ytkoinfegbkigcaa
