/- A part of the proof: contracts of functions of the program, each for the inputs that its premises name. -/
import Derived.Test.YtkoinfegbkigcaaRtTN
namespace Go.Proofs.Ytkoinfegbkigcaa
open Go.Rt
set_option maxHeartbeats 400000

theorem pkt_agg {p : Packet} {v : Value} {V : View} (h : (Va p).p v V) : v = .agg (pktV p) := by
  obtain ⟨cs, rfl, h2, h3⟩ := h
  obtain ⟨c0, e0, f0⟩ := h3 0 _ rfl
  obtain ⟨c1, e1, f1⟩ := h3 1 _ rfl
  obtain ⟨c2, e2, f2⟩ := h3 2 _ rfl
  obtain ⟨c3, e3, f3⟩ := h3 3 _ rfl
  obtain ⟨c4, e4, f4⟩ := h3 4 _ rfl
  have f0' : c0 = .int .i64 p.src := f0
  have f1' : c1 = .int .i64 p.ctr := f1
  have f2' : c2 = .float .f32 p.a.bits := f2
  have f3' : c3 = .float .f32 p.b.bits := f3
  have f4' : c4 = .float .f32 p.c.bits := f4
  subst f0'; subst f1'; subst f2'; subst f3'; subst f4'
  congr 1
  apply Array.ext'
  apply List.ext_getElem?
  intro i
  match i with
  | 0 => simpa [pktV] using e0
  | 1 => simpa [pktV] using e1
  | 2 => simpa [pktV] using e2
  | 3 => simpa [pktV] using e3
  | 4 => simpa [pktV] using e4
  | i + 5 =>
    have : cs.size = 5 := h2
    simp [this, pktV]

theorem t_pktNe {F : List (Nat × Ty)} {M : List Res} {o : Oper} {x y : Operand} {p : Packet} (hp : PktOk p) (ho : o.op = .binOp .neq 35 x y 35 := by rfl) (hx : OT F x (Va p) := by exact ot_tmp rfl) (hy : OT F y (Va p) := by exact ot_tmp rfl) : OpT Try.prog F M o (Is (.bool false)) :=
  opT_val fun tm V w hf _ _ => by
    have h1 := pkt_agg (hx.h tm V (hf _ (by simp [ho, Op.operands])))
    have h2 := pkt_agg (hy.h tm V (hf _ (by simp [ho, Op.operands])))
    have hq := fun xs ys => run_eqGuard_agg (P := Try.prog) w .neq 35 x y xs ys (by kernel_rfl)
    exact ⟨.bool false, by simp [execOp, ho, h1, h2, hq, run_neq_struct, pkt_eq p hp], rfl⟩

theorem lost1_fn (p : Packet) (hp : PktOk p) : FnS Try.prog 66 [Va p, PtrTo [Is (.int .i64 p.src)]] (Va false) := by
  refine spec_enter Try.func66 rfl Try.ntmps66 Try.call66 (by simp) fun C _ => ?_
  refine g_seq ?_
  refine gl_region ?_
  refine gl_op t_box ?_
  refine gl_op t_assign ?_
  refine gl_nil ?_
  refine g_seq ?_
  refine gl_region ?_
  refine gl_op t_loadV ?_
  refine gl_op t_load_one ?_
  refine gl_op t_field ?_
  refine gl_op t_load_one ?_
  refine gl_op t_field ?_
  refine gl_op (t_load_agg (t := 33) (Us := [Is (.float .f32 p.a.bits), Is (.float .f32 p.b.bits), Is (.float .f32 p.c.bits)])) ?_
  refine gl_op t_build ?_
  refine gl_op (t_pktNe hp) ?_
  refine gl_op t_assign ?_
  refine gl_nil ?_
  exact g_ret Try.func66 () (res1e Try.results66 rfl rfl) (.inl rfl)

theorem mapped62_fn (xs : List Packet) (p : Packet → Prop) (g : Packet → Int) (hp : ∀ x ∈ xs, p x) (hlen : xs.length ≤ 1000000) : FnS Try.prog 62 [Sl xs, FnV Try.prog (ι := {x : Packet // p x}) (fun x => [Va x.1]) (fun x => Va (g x.1))] (Sl (xs.map g)) := by
  refine spec_enter Try.func62 rfl Try.ntmps62 Try.call62 (by simp) fun C hX => ?_
  refine g_seq ?_
  refine gl_region ?_
  refine gl_op t_assign ?_
  refine gl_nil ?_
  refine g_seq ?_
  refine gl_region ?_
  refine gl_op t_assign ?_
  refine gl_nil ?_
  refine g_seq ?_
  refine g_seq ?_
  refine gl_region ?_
  refine gl_op t_move ?_
  refine gl_op t_len ?_
  refine gl_op t_move ?_
  refine gl_nil ?_
  refine g_block ?_
  refine g_loop (fun p : Nat × Value => p.1 ≤ xs.length) (fun q => [(5, Is q.2), (10, Is (.int .i64 q.1)), (8, Sl xs), (9, Is (.int .i64 xs.length)), (1, FnV Try.prog (ι := {x : Packet // p x}) (fun x => [Va x.1]) (fun x => Va (g x.1)))]) (fun q => [RowV q.2 37 ((xs.take q.1).map g)]) (fun q => xs.length - q.1) (fun H => ?_) (fun q hk ih => ?_)
  · refine g_ent (e_nilrow (E := 37) (α := Int)) ?_
    refine g_subF ?_ (H (0, .slice none 0 0) (by simp))
    repeat (first | exact tf_nil | refine tf_cons (by first | exact ot_tmp rfl | exact ot_eq rfl (by first | (simp; done) | (congr 2; omega)) | exact ot_sub (ot_tmp rfl) sl_slf) ?_)
  · obtain ⟨k, v⟩ := q
    refine g_seq ?_
    refine gl_region ?_
    refine gl_op t_lss ?_
    refine gl_nil ?_
    refine g_seq ?_
    refine g_cond (ot_tmp rfl) (fun h => ?_) (fun h => ?_)
    · simp at h hk
      have hx : xs.getD k default ∈ xs := getD_mem h
      refine g_skip ?_
      refine g_seq ?_
      refine g_block ?_
      refine g_seq ?_
      refine gl_region ?_
      refine gl_op t_index ?_
      refine gl_op t_load ?_
      refine gl_opM m_alloc (fun bl => ?_)
      refine gl_opM0 m_store_agg (fun _ => ?_)
      refine gl_nil ?_
      refine gl_region ?_
      refine gl_op t_move ?_
      refine gl_op t_move ?_
      refine gl_op t_loadM_agg ?_
      refine gl_ent (e_cells (s := 7) rfl (by simp [hX, ids])) ?_
      refine gl_op (t_calldyn (⟨xs.getD k default, hp _ hx⟩ : {x : Packet // p x})) ?_
      refine gl_op (t_buildSlice (α := Int)) ?_
      refine gl_opM m_append (fun v' => ?_)
      refine gl_op t_assign ?_
      refine gl_nil ?_
      refine g_inBlock ?_
      refine gl_region ?_
      refine gl_op t_add ?_
      refine gl_op t_move ?_
      refine gl_nil ?_
      refine g_subF ?_ (g_eqM (M' := [RowV v' 37 ((xs.take (k + 1)).map g)]) ?_ (ih (k + 1, v') (by simp; omega) (by simp; omega)))
      · repeat (first | exact tf_nil | refine tf_cons (by first | exact ot_tmp rfl | exact ot_eq rfl (by first | (simp; done) | (congr 2; omega)) | exact ot_sub (ot_tmp rfl) sl_slf) ?_)
      · rw [map_take_snoc h]
    · simp at h hk
      refine g_exit rfl ?_
      refine g_seq ?_
      refine gl_region ?_
      refine gl_op t_move ?_
      refine gl_op t_assign ?_
      refine gl_nil ?_
      refine g_ent (e_row (s := 4) rfl hX) ?_
      refine g_ret Try.func62 () (res1e Try.results62 rfl ?_) (.inl rfl)
      rw [List.take_of_length_le (by simp; omega)]

theorem clone_fn (ps : List Packet) (hl : ps.length ≤ 1000000) : FnS Try.prog 65 [Sl ps] (Sl ps) := by
  refine spec_enter Try.func65 rfl Try.ntmps65 Try.call65 (by simp) fun C hX => ?_
  refine g_seq ?_
  refine gl_region ?_
  refine gl_op t_assign ?_
  refine gl_nil ?_
  refine g_seq ?_
  refine g_seq ?_
  refine gl_region ?_
  refine gl_op t_move ?_
  refine gl_opM t_sliceNil (fun q => ?_)
  refine gl_nil ?_
  refine g_cond (ot_tmp rfl) (fun h => ?_) (fun h => ?_)
  · have := q.2 h
    subst this
    refine g_seq ?_
    refine gl_region ?_
    refine gl_op t_assign ?_
    refine gl_nil ?_
    refine g_ret Try.func65 () (resT_sub (res1 Try.results65 rfl) (fun v V h => ?_)) (.inl rfl)
    have hv : v = .slice none 0 0 := h
    exact ⟨none, 0, 0, hv, rfl, Nat.le_refl _, by omega, fun h => absurd rfl h⟩
  · refine g_skip ?_
    refine g_seq ?_
    refine gl_region ?_
    refine gl_op (t_buildSlice (α := Packet) (xs := [])) ?_
    refine gl_op t_move ?_
    refine gl_op (t_append_full (α := Packet)) ?_
    refine gl_op t_assign ?_
    refine gl_nil ?_
    exact g_ret Try.func65 () (res1e Try.results65 rfl rfl) (.inl rfl)

def PSrc (s : Int) (p : Packet) : Prop := p.src = s ∧ PktOk p
instance : Nonempty {p : Packet // PSrc 3 p} := ⟨⟨⟨3, 0, smp 0, smp 0, smp 0⟩, rfl, by
  have h : SmpR 0 := by unfold SmpR; omega
  exact ⟨by simp only []; omega, by simp only []; omega, smp_good h, smp_good h, smp_good h⟩⟩⟩

abbrev PredT : Ty := FnV Try.prog (ι := {p : Packet // PSrc 3 p}) (fun p => [Va p.1]) (fun _ => Va false)

theorem index131_fn (ps : List Packet) (hp : ∀ p ∈ ps, PSrc 3 p) : FnS Try.prog 131 [Sl ps, PredT] (Is (.int .i64 (-1))) := by
  refine spec_enter Try.func131 rfl Try.ntmps131 Try.call131 (by simp) fun C hX => ?_
  refine g_fact (s := 0) rfl sl_len fun hlen => ?_
  refine g_seq ?_
  refine gl_region ?_
  refine gl_op t_assign ?_
  refine gl_nil ?_
  refine g_seq ?_
  refine g_seq ?_
  refine gl_region ?_
  refine gl_op t_move ?_
  refine gl_op t_len ?_
  refine gl_op t_move ?_
  refine gl_nil ?_
  refine g_block ?_
  refine g_loop (fun k : Nat => k ≤ ps.length) (fun k => [(8, Is (.int .i64 k)), (7, Is (.int .i64 ps.length)), (0, Sl ps), (1, PredT)]) (fun _ => []) (fun k => ps.length - k) (fun H => ?_) (fun k hk ih => ?_)
  · refine g_subF ?_ (H 0 (by simp))
    repeat (first | exact tf_nil | refine tf_cons (by first | exact ot_tmp rfl | exact ot_eq rfl (by first | (simp; done) | (congr 2; omega)) | exact ot_sub (ot_tmp rfl) sl_slf) ?_)
  · refine g_seq ?_
    refine gl_region ?_
    refine gl_op t_lss ?_
    refine gl_nil ?_
    refine g_seq ?_
    refine g_cond (ot_tmp rfl) (fun h => ?_) (fun h => ?_)
    · simp at h
      have hx := hp _ (getD_mem h)
      refine g_skip ?_
      refine g_seq ?_
      refine g_block ?_
      refine g_seq ?_
      refine gl_region ?_
      refine gl_op t_move ?_
      refine gl_op t_assign ?_
      refine gl_nil ?_
      refine g_seq ?_
      refine gl_region ?_
      refine gl_op t_move ?_
      refine gl_op t_move ?_
      refine gl_op t_move ?_
      refine gl_op t_index ?_
      refine gl_op t_load ?_
      refine gl_op (t_calldyn (⟨ps.getD k default, hx⟩ : {p : Packet // PSrc 3 p})) ?_
      refine gl_nil ?_
      refine g_cond (ot_tmp rfl) (fun h3 => by cases h3) (fun h3 => ?_)
      refine g_skip ?_
      refine g_inBlock ?_
      refine gl_region ?_
      refine gl_op t_add ?_
      refine gl_op t_move ?_
      refine gl_nil ?_
      refine g_subF ?_ (ih (k + 1) (by omega) (by omega))
      repeat (first | exact tf_nil | refine tf_cons (by first | exact ot_tmp rfl | exact ot_eq rfl (by first | (simp; done) | (congr 2; omega)) | exact ot_sub (ot_tmp rfl) sl_slf) ?_)
    · refine g_exit rfl ?_
      refine g_seq ?_
      refine gl_region ?_
      refine gl_op t_assign ?_
      refine gl_nil ?_
      exact g_ret Try.func131 () (res1e Try.results131 rfl rfl) (.inl rfl)

theorem delete_fn (ps : List Packet) (hp : ∀ p ∈ ps, PSrc 3 p) : FnS Try.prog 64 [Sl ps, PredT] (Sl ps) := by
  refine spec_enter Try.func64 rfl Try.ntmps64 Try.call64 (by simp) fun C hX => ?_
  refine g_seq ?_
  refine gl_region ?_
  refine gl_op t_assign ?_
  refine gl_nil ?_
  refine g_seq ?_
  refine gl_region ?_
  refine gl_op t_move ?_
  refine gl_op t_move ?_
  refine gl_op (t_call (index131_fn _ hp)) ?_
  refine gl_op t_assign ?_
  refine gl_nil ?_
  refine g_seq ?_
  refine g_seq ?_
  refine gl_region ?_
  refine gl_op t_move ?_
  refine gl_op t_eql ?_
  refine gl_nil ?_
  refine g_cond (ot_tmp rfl) (fun _ => ?_) (fun h => absurd h (by decide))
  refine g_seq ?_
  refine gl_region ?_
  refine gl_op t_move ?_
  refine gl_op t_assign ?_
  refine gl_nil ?_
  exact g_ret Try.func64 () (res1e Try.results64 rfl rfl) (.inl rfl)
end Go.Proofs.Ytkoinfegbkigcaa
