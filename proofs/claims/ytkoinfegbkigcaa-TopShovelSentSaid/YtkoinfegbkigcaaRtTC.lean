/- A part of the proof: contracts of functions of the program, each for the inputs that its premises name. -/
import Derived.Test.YtkoinfegbkigcaaRtTB
namespace Go.Proofs.Ytkoinfegbkigcaa
open Go.Rt
set_option maxHeartbeats 400000

theorem sameRun_fn (r : Run) (hg : ∀ x ∈ r.xs, Good x) : FnS Try.prog 32 [Va r, Va r] (Va true) := by
  refine spec_enter Try.func32 rfl Try.ntmps32 Try.call32 (by simp) fun C _ => ?_
  refine g_seq ?_
  refine gl_region ?_
  refine gl_op t_box ?_
  refine gl_op t_box ?_
  refine gl_op t_assign ?_
  refine gl_nil ?_
  refine g_seq ?_
  refine gl_region ?_
  refine gl_op t_field ?_
  refine gl_op t_load_one ?_
  refine gl_op t_field ?_
  refine gl_op t_load_one ?_
  refine gl_op (t_eqs) ?_
  refine gl_op t_move ?_
  refine gl_guard (hop := fun _ => t_field) (h := ?_)
  refine gl_guard (hop := fun _ => t_load_one) (h := ?_)
  refine gl_guard (hop := fun _ => t_field) (h := ?_)
  refine gl_guard (hop := fun _ => t_load_one) (h := ?_)
  refine gl_guard (hop := fun _ => t_eql) (h := ?_)
  refine gl_op t_pick_and ?_
  refine gl_op t_move ?_
  refine gl_guard (hop := fun _ => t_field) (h := ?_)
  refine gl_guard (hop := fun _ => t_load_one) (h := ?_)
  refine gl_guard (hop := fun _ => t_field) (h := ?_)
  refine gl_guard (hop := fun _ => t_load_one) (h := ?_)
  refine gl_guard (hop := fun _ => (t_call (sameSamples_fn _ hg))) (h := ?_)
  refine gl_op t_pick_and ?_
  refine gl_op t_move ?_
  refine gl_guard (hop := fun _ => t_field) (h := ?_)
  refine gl_guard (hop := fun _ => t_load_one) (h := ?_)
  refine gl_guard (hop := fun _ => t_field) (h := ?_)
  refine gl_guard (hop := fun _ => t_load_one) (h := ?_)
  refine gl_guard (hop := fun _ => (t_call (sameSpans_fn _))) (h := ?_)
  refine gl_op t_pick_and ?_
  refine gl_op t_assign ?_
  refine gl_nil ?_
  refine g_ret Try.func32 () (res1e Try.results32 rfl ?_) (.inl rfl)
  simp; rfl

/-- A packet that can be sent. -/
structure PktOk (p : Packet) : Prop where
  s0 : 0 ≤ p.src ∧ p.src ≤ 255
  c0 : 0 ≤ p.ctr ∧ p.ctr ≤ 65535
  a : Good p.a
  b : Good p.b
  c : Good p.c

theorem pcheck_fn (p : Packet) (hp : PktOk p) : FnS Try.prog 55 [Va p] (Va (0 : Int)) := by
  have h94 : ∀ x : {x : F32 // Good x}, FnS Try.prog 94 [Va x.1] (Va ((fun _ : F32 => (0 : Int)) x.1)) := fun x => checkSample_fn _ x.2
  have hall : ∀ x ∈ [p.a, p.b, p.c], Good x := by
    intro x hx
    simp only [List.mem_cons, List.not_mem_nil, or_false] at hx
    rcases hx with rfl | rfl | rfl
    · exact hp.a
    · exact hp.b
    · exact hp.c
  have hs := hp.s0
  have hc := hp.c0
  refine spec_enter Try.func55 rfl Try.ntmps55 Try.call55 (by simp) fun C _ => ?_
  refine g_seq ?_
  refine gl_region ?_
  refine gl_op t_box ?_
  refine gl_op t_assign ?_
  refine gl_nil ?_
  refine g_seq ?_
  refine gd_region 8 mixed (by kernel_rfl) ?_
  simp only [List.take_succ_cons, List.take_zero, List.drop_succ_cons, List.drop_zero]
  refine dl_op t_field ?_
  refine dl_op t_load_one ?_
  refine dl_op (t_call (within_fn _ _ _)) ?_
  refine dl_op t_field ?_
  refine dl_op t_load_one ?_
  refine dl_op (t_call (within_fn _ _ _)) ?_
  refine dl_op t_field ?_
  refine dl_op (t_slice_arr [p.a, p.b, p.c]) ?_
  refine dl_nil ?_
  refine gl_op (t_call (mapped126_fn [p.a, p.b, p.c] Good (fun _ => 0) hall (by simp)) (hx := by exact ⟨ot_tmp rfl, ot_fn h94, trivial⟩)) ?_
  refine gl_op (t_call (first_fn _)) ?_
  refine gl_op (t_buildSlice (α := Int)) ?_
  refine gl_op (t_call (first_fn _)) ?_
  refine gl_op t_assign ?_
  refine gl_nil ?_
  refine g_ret Try.func55 () (res1e Try.results55 rfl ?_) (.inl rfl)
  rw [if_neg (by omega), if_neg (by omega)]
  rfl

end Go.Proofs.Ytkoinfegbkigcaa
