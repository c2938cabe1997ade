/- A part of the proof: contracts of functions of the program, each for the inputs that its premises name. -/
import Derived.Test.YtkoinfegbkigcaaRtTP
namespace Go.Proofs.Ytkoinfegbkigcaa
open Go.Rt
set_option maxHeartbeats 400000

abbrev rN : ByteArray := { data := #[114] }
theorem rN_ok : NameOk rN := by
  refine ⟨by decide, by decide, fun i hi => ?_⟩
  have h1 : rN.size = 1 := rfl
  have : i = 0 := by omega
  subst this
  left; left
  decide

theorem run_nil {nm : ByteArray} {f : Int} {xs : List F32} : ∀ v V, (Agg [Is (.string nm), Is (.int .i64 f), Sl xs, Is (.slice none 0 0)]).p v V → (Va (Run.mk nm f xs [])).p v V := fun v V h => by
  obtain ⟨cs, h1, h2, h3⟩ := h
  refine ⟨cs, h1, h2, fun i T e => ?_⟩
  match i, e with
  | 0, e => exact h3 0 T e
  | 1, e => exact h3 1 T e
  | 2, e => exact h3 2 T e
  | 3, e =>
    cases e
    obtain ⟨c, h4, h5⟩ := h3 3 _ rfl
    have h5' : c = .slice none 0 0 := h5
    exact ⟨c, h4, none, 0, 0, h5', rfl, Nat.le_refl _, by omega, fun h => absurd rfl h⟩

theorem t_buildG {P : Program} {F : List (Nat × Ty)} {M : List Res} {o : Oper} {t : TypeId} {ps : List (Nat × Operand)} {zs : List Value} {pl : Nat → Option (Nat × Nat)} {Ts Us : List Ty} (ho : o.op = .build t ps.toArray := by rfl) (g : PlaceT P t zs pl := by infer_instance)
    (hF : Fills F pl ps (zs.map Is) Ts := by (repeat (first
        | exact Fills.nil
        | apply Fills.cons rfl (by first
            | exact oc_one (ot_sub (ot_when rfl (by assumption)) sl_slf) (scal_sl _)
            | exact oc_agg (ot_when rfl (by assumption))
            | exact oc_one (by first | exact ot_const | exact ot_when rfl (by assumption)) (by first | exact scal_is rfl | exact scal_sl _)
            | exact oc_one (ot_sub (ot_tmp rfl) sl_slf) (scal_sl _)
            | exact oc_agg (ot_tmp rfl)
            | exact oc_one (by first | exact ot_tmp rfl | exact ot_const | exact ot_func) (by first | exact scal_is rfl | exact scal_sl _ | exact scal_ptr _ | exact scal_fn)
            | exact oc_va (ot_tmp rfl)) (by rfl) (Nat.le_of_ble_eq_true rfl))); first | done | fail) (hU : Ts = Us := by first | (simp only [Value.cells, List.toList_toArray, List.map_cons, List.map_nil, List.take_succ_cons, List.take_zero, List.drop_succ_cons, List.drop_zero, List.nil_append, List.cons_append, List.append_nil, List.length_cons, List.length_nil, Nat.zero_add, Nat.reduceAdd, List.set_cons_zero, List.set_cons_succ, List.append_assoc]; exact rfl) | exact rfl) : OpT P F M o (Agg Us) := t_build ho g hF hU

def exA : Run := ⟨rN, 6, [⟨1065353216⟩, ⟨1073741824⟩], []⟩
def exB : Run := ⟨rN, 9, [⟨1077936128⟩], []⟩
def exC : Run := ⟨rN, 6, [⟨1065353216⟩, ⟨1073741824⟩, ⟨0⟩, ⟨1077936128⟩], [⟨2, 3⟩]⟩
def exD : Run := ⟨rN, 6, [⟨1065353216⟩, ⟨1073741824⟩, ⟨1075838976⟩, ⟨1077936128⟩], []⟩
theorem exA_W : exA = W rN 6 [⟨16, true⟩, ⟨32, true⟩] := by kernel_rfl
theorem exB_W : exB = W rN 9 [⟨48, true⟩] := by kernel_rfl
theorem exC_W : exC = W rN 6 [⟨16, true⟩, ⟨32, true⟩, ⟨0, false⟩, ⟨48, true⟩] := by kernel_rfl
theorem exD_W : exD = W rN 6 [⟨16, true⟩, ⟨32, true⟩, ⟨40, true⟩, ⟨48, true⟩] := by kernel_rfl
theorem nrm_lit (l : List Reading) (h : (l.all fun x => decide (-128 ≤ x.n ∧ x.n ≤ 127) && (x.known || decide (x.n = 0))) = true) : Nrm l := fun x hx => by
  have := List.all_eq_true.1 h x hx
  simp only [Bool.and_eq_true, decide_eq_true_eq, Bool.or_eq_true] at this
  exact ⟨this.1, fun hk => by rw [hk] at this; simpa using this.2⟩
theorem exA_ok : RunOk exA := by rw [exA_W]; exact runOk_W rN_ok (by decide) (by decide) (by decide) (nrm_lit _ (by decide))
theorem exB_ok : RunOk exB := by rw [exB_W]; exact runOk_W rN_ok (by decide) (by decide) (by decide) (nrm_lit _ (by decide))
theorem exC_ok : RunOk exC := by rw [exC_W]; exact runOk_W rN_ok (by decide) (by decide) (by decide) (nrm_lit _ (by decide))
theorem exD_ok : RunOk exD := by rw [exD_W]; exact runOk_W rN_ok (by decide) (by decide) (by decide) (nrm_lit _ (by decide))
theorem exJ : Run.mk exA.name exA.first ((jr exA exB).map fun x => smp x.n) (holesOf (jr exA exB)) = exC := by kernel_rfl
theorem exF0 : fillUp 1 exC 0 = [⟨16, true⟩, ⟨32, true⟩, ⟨0, false⟩, ⟨48, true⟩] := by kernel_rfl
theorem exF1 : fillUp 1 exC 1 = [⟨16, true⟩, ⟨32, true⟩, ⟨40, true⟩, ⟨48, true⟩] := by kernel_rfl
theorem exF : Run.mk exC.name exC.first ((fillUp 1 exC exC.hs.length).map fun x => smp x.n) (holesOf (fillUp 1 exC exC.hs.length)) = exD := by kernel_rfl

theorem shovelSent_fn : FnS Try.prog 7 [] (Va true) := by
  have hj := joined_fn exA exB exA_ok exB_ok (by decide) (by decide) (by decide)
  rw [exJ] at hj
  have hf := filled_fn exC exC_ok 1 (by decide) (fun k hk x hx => by
    have hk' : k = 0 ∨ k = 1 := by have : exC.hs.length = 1 := rfl
                                   omega
    rcases hk' with rfl | rfl
    · rw [exF0] at hx; exact (nrm_lit _ (by decide) x hx).1
    · rw [exF1] at hx; exact (nrm_lit [⟨16, true⟩, ⟨32, true⟩, ⟨40, true⟩, ⟨48, true⟩] (by decide) x hx).1)
  rw [exF] at hf
  refine spec_enter Try.func7 rfl Try.ntmps7 Try.call7 (by simp) fun C hX => ?_
  refine g_seq ?_
  refine gl_region ?_
  refine gl_op t_assign ?_
  refine gl_nil ?_
  refine g_seq ?_
  refine gl_region ?_
  refine gl_op (t_buildSlice (α := F32) (xs := [⟨1065353216⟩, ⟨1073741824⟩])) ?_
  refine gl_op t_build ?_
  refine gl_op (t_buildSlice (α := F32) (xs := [⟨1077936128⟩])) ?_
  refine gl_op t_build ?_
  refine gl_op (t_call hj (hx := by exact ⟨ot_sub (ot_tmp rfl) run_nil, ot_sub (ot_tmp rfl) run_nil, trivial⟩)) ?_
  refine gl_op t_move ?_
  refine gl_op t_extract ?_
  refine gl_op t_extract ?_
  refine gl_opM m_alloc (fun bl => ?_)
  refine gl_opM0 m_store_agg (fun _ => ?_)
  refine gl_op t_assign ?_
  refine gl_nil ?_
  refine g_seq ?_
  refine g_seq ?_
  refine gl_region ?_
  refine gl_op t_move ?_
  refine gl_op t_neq ?_
  refine gl_op t_move ?_
  refine gl_guard (hop := fun _ => t_loadM_agg) (h := ?_)
  refine gl_guard (hop := fun _ => (t_call (rcheckRun_fn exC exC_ok))) (h := ?_)
  refine gl_guard (hop := fun _ => t_neq) (h := ?_)
  refine gl_op t_pick_or ?_
  refine gl_nil ?_
  refine g_cond (ot_tmp rfl) (fun h => absurd h (by decide)) (fun _ => ?_)
  have hgC := exC_ok.good
  have hgD := exD_ok.good
  refine g_skip ?_
  refine g_seq ?_
  refine gl_region ?_
  refine gl_op t_loadM_agg ?_
  refine gl_op (t_call (own_fn exC (by decide) (by decide))) ?_
  refine gl_op (t_call hf) ?_
  refine gl_op t_move ?_
  refine gl_op t_extract ?_
  refine gl_op t_extract ?_
  refine gl_opM m_alloc (fun bl => ?_)
  refine gl_opM0 m_store_agg (fun _ => ?_)
  refine gl_op t_assign ?_
  refine gl_nil ?_
  refine g_seq ?_
  refine gl_region ?_
  refine gl_op t_move ?_
  refine gl_op t_eql ?_
  refine gl_op t_move ?_
  refine gl_guard (hop := fun _ => t_loadM_agg) (h := ?_)
  refine gl_guard (hop := fun hc => t_buildSlice (α := F32) (xs := [⟨1065353216⟩, ⟨1073741824⟩, ⟨0⟩, ⟨1077936128⟩])) (h := ?_)
  refine gl_guard (hop := fun hc => t_buildG) (h := ?_)
  refine gl_guard (hop := fun hc => t_buildSlice (α := Span) (xs := [⟨2, 3⟩])) (h := ?_)
  refine gl_guard (hop := fun hc => t_buildG) (h := ?_)
  refine gl_guard (hop := fun _ => (t_call (sameRun_fn exC hgC))) (h := ?_)
  refine gl_op t_pick_and ?_
  refine gl_op t_move ?_
  refine gl_guard (hop := fun _ => t_loadM_agg) (h := ?_)
  refine gl_guard (hop := fun hc => t_buildSlice (α := F32) (xs := [⟨1065353216⟩, ⟨1073741824⟩, ⟨1075838976⟩, ⟨1077936128⟩])) (h := ?_)
  refine gl_guard (hop := fun hc => t_buildG) (h := ?_)
  refine gl_guard (hop := fun _ => (t_call (sameRun_fn exD hgD) (hx := by exact ⟨ot_when rfl (by assumption), ot_sub (ot_when rfl (by assumption)) run_nil, trivial⟩))) (h := ?_)
  refine gl_op t_pick_and ?_
  refine gl_op t_assign ?_
  refine gl_nil ?_
  exact g_ret Try.func7 () (res1e Try.results7 rfl rfl) (.inr rfl)
end Go.Proofs.Ytkoinfegbkigcaa
