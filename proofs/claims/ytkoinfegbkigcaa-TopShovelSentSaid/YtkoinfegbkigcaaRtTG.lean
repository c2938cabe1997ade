/- A part of the proof: contracts of functions of the program, each for the inputs that its premises name. -/
import Derived.Test.YtkoinfegbkigcaaRtTF
namespace Go.Proofs.Ytkoinfegbkigcaa
open Go.Rt
set_option maxHeartbeats 400000

def body0 (p : Packet) : List UInt8 := [90, by8 p.src] ++ [by8 (p.ctr / 256), by8 p.ctr]
def bodyUp (p : Packet) (k : Nat) : List UInt8 := body0 p ++ ([p.a, p.b, p.c].take k).flatMap fun x => be4 (bitsOf x)
/-- The frame of a packet. -/
def frame (p : Packet) : List UInt8 := bodyUp p 3 ++ be4 (csum (bodyUp p 3))
theorem frame_len (p : Packet) : (frame p).length = 20 := by simp [frame, bodyUp, body0, be4]

theorem encode_fn (p : Packet) (hp : PktOk p) : FnS Try.prog 8 [Va p] (Tup [Agg ((frame p).flatMap Enc.ty), Va (0 : Int)]) := by
  refine spec_enter Try.func8 rfl Try.ntmps8 Try.call8 (by simp) fun C hX => ?_
  refine g_seq ?_
  refine gl_region ?_
  refine gl_op t_box ?_
  refine gl_opM m_alloc (fun bl => ?_)
  refine gl_op t_assign ?_
  refine gl_nil ?_
  refine g_seq ?_
  refine g_seq ?_
  refine gl_region ?_
  refine gl_op t_loadV ?_
  refine gl_op (t_call (pcheck_fn _ hp)) ?_
  refine gl_op t_assign ?_
  refine gl_nil ?_
  refine g_seq ?_
  refine gl_region ?_
  refine gl_op t_move ?_
  refine gl_op t_neq ?_
  refine gl_nil ?_
  refine g_cond (ot_tmp rfl) (fun h => by simp at h) (fun _ => ?_)
  refine g_skip ?_
  refine g_seq ?_
  refine gl_region ?_
  refine gl_op t_field ?_
  refine gl_op t_load_one ?_
  refine gl_op (t_conv_ii (k := .u8)) ?_
  refine gl_opM (m_buildRow (α := UInt8) (xs := [90, by8 p.src]) (hp := .cons (ot_const) (.cons (ot_eq rfl (is_u8 _)) .nil))) (fun v => ?_)
  refine gl_op t_field ?_
  refine gl_op t_load_one ?_
  refine gl_opM (m_callR1 (two_fn v [90, by8 p.src] p.ctr (by simp))) (fun v1 => ?_)
  refine gl_op t_assign ?_
  refine gl_nil ?_
  refine g_seq ?_
  refine g_seq ?_
  refine gl_region ?_
  refine gl_op t_field ?_
  refine gl_op t_load_agg ?_
  refine gl_op t_move ?_
  refine gl_nil ?_
  refine g_block ?_
  revert bl; intro b2
  refine g_loop (fun q : Nat × Value => q.1 ≤ 3) (fun q => [(23, Is (.int .i64 q.1)), (22, Agg [Va p.a, Va p.b, Va p.c]), (5, Is q.2), (2, Is (.pointer (some ⟨b2, 0, none⟩)))]) (fun q => [RowV q.2 5 (bodyUp p q.1), Cells b2 36 (List.replicate 20 (Is (.int .u8 0)))]) (fun q => 3 - q.1) (fun H => ?_) (fun q hq ih => ?_)
  · refine g_subF ?_ (g_eqM ?_ (H (0, v1) (by simp)))
    · repeat (first | exact tf_nil | refine tf_cons (by first | exact ot_tmp rfl | exact ot_eq rfl (by first | (simp; done) | (congr 2; omega)) | exact ot_sub (ot_tmp rfl) sl_slf) ?_)
    · rfl
  · obtain ⟨k, v⟩ := q
    dsimp only at hq ih ⊢
    have hbl : (bodyUp p k).length ≤ 100 := by
      have : k = 0 ∨ k = 1 ∨ k = 2 ∨ k = 3 := by omega
      rcases this with rfl | rfl | rfl | rfl <;> simp [bodyUp, body0, be4]
    refine g_seq ?_
    refine gl_region ?_
    refine gl_op t_lss ?_
    refine gl_nil ?_
    refine g_seq ?_
    refine g_cond (ot_tmp rfl) (fun h => ?_) (fun h => ?_)
    · simp at h
      have hT : ([Va p.a, Va p.b, Va p.c])[(k : Int).toNat]? = some (Va ([p.a, p.b, p.c].getD k default)) := by
        have : k = 0 ∨ k = 1 ∨ k = 2 := by omega
        rcases this with rfl | rfl | rfl <;> rfl
      have hlt : ([p.a, p.b, p.c].getD k default).bits < 4294967296 := by
        have : k = 0 ∨ k = 1 ∨ k = 2 := by omega
        rcases this with rfl | rfl | rfl
        · exact hp.a.f.lt
        · exact hp.b.f.lt
        · exact hp.c.f.lt
      refine g_skip ?_
      refine g_seq ?_
      refine g_block ?_
      refine g_seq ?_
      refine gl_region ?_
      refine gl_op (t_index_arr (hT := hT)) ?_
      refine gl_op t_assign ?_
      refine gl_nil ?_
      refine gl_region ?_
      refine gl_op t_move ?_
      refine gl_op t_move ?_
      refine gl_op (t_call (bits_fn _ hlt)) ?_
      refine gl_opM (m_callR1 (four_fn v (bodyUp p k) (bitsOf ([p.a, p.b, p.c].getD k default)) (by omega))) (fun v' => ?_)
      refine gl_op t_assign ?_
      refine gl_nil ?_
      refine g_inBlock ?_
      refine gl_region ?_
      refine gl_op t_add ?_
      refine gl_op t_move ?_
      refine gl_nil ?_
      refine g_subF ?_ (g_eqM ?_ (ih (k + 1, v') (by simp; omega) (by simp; omega)))
      · repeat (first | exact tf_nil | refine tf_cons (by first | exact ot_tmp rfl | exact ot_eq rfl (by first | (simp; done) | (congr 2; omega)) | exact ot_sub (ot_tmp rfl) sl_slf) ?_)
      · have : bodyUp p (k + 1) = bodyUp p k ++ be4 (bitsOf ([p.a, p.b, p.c].getD k default)) := by
          unfold bodyUp; rw [take_snoc (show k < [p.a, p.b, p.c].length by simp only [List.length_cons, List.length_nil]; omega)]; simp
        rw [this]; rfl
    · simp at h
      have hk : k = 3 := by omega
      subst hk
      refine g_exit rfl ?_
      refine g_seq ?_
      refine gl_region ?_
      refine gl_op t_move ?_
      refine gl_opM (m_callR1 (summed_fn v (bodyUp p 3) (by omega))) (fun v' => ?_)
      refine gl_ent (e_row (s := 32) rfl hX) ?_
      refine gl_op (t_toArr (n := 20) (hn := frame_len p)) ?_
      have hfl : ((frame p).flatMap Enc.ty).length = 20 := by rw [length_flatMap, frame_len]; rfl
      refine gl_op (t_load_agg (n := 20) (Us := (frame p).flatMap Enc.ty) (hn := by omega) (hU := List.take_of_length_le (by omega))) ?_
      refine gl_opM0 (m_store_agg (n := 20) (Us := (frame p).flatMap Enc.ty) (Ts := List.replicate 20 (Is (.int .u8 0))) (Ts' := (frame p).flatMap Enc.ty) (hS := fun T hT => by obtain ⟨x, _, hx⟩ := List.mem_flatMap.1 hT; exact Enc.scal x T hx) (hU := hfl) (hn := by simp) (hT := by simp)) (fun _ => ?_)
      refine gl_op t_assign ?_
      refine gl_nil ?_
      refine g_ent (e_cells (s := 2) rfl (by simp [hX, ids])) ?_
      exact g_ret Try.func8 () (res_two Try.results8 (rv_agg rfl (hn := hfl)) (rv_tmp rfl)) (.inl rfl)

end Go.Proofs.Ytkoinfegbkigcaa
