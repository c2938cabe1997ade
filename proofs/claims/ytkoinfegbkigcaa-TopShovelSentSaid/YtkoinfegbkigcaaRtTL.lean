/- A part of the proof: contracts of functions of the program, each for the inputs that its premises name. -/
import Derived.Test.YtkoinfegbkigcaaRtTK
namespace Go.Proofs.Ytkoinfegbkigcaa
open Go.Rt
set_option maxHeartbeats 400000

section
variable {P : Program} {F : List (Nat × Ty)} {M : List Res} {o : Oper} {T : Ty}
theorem run_ptr_nil {ty e : TypeId} (u : UndT P ty (.pointer e)) (a : Addr) (w : World) : (Op.equal ty (.pointer (some a)) (.pointer none)).run P w = .ok false w := by
  unfold Op.equal Op.maxDepth
  rw [show (10000 : Nat) = 9999 + 1 from rfl]
  unfold Op.equalIn
  simp [run_underlying u.h]
theorem t_ptrNe {ty ty' e : TypeId} {x : Operand} {Ts : List Ty} (ho : o.op = .binOp .neq ty x (.const (.pointer none)) ty' := by rfl) (hx : OT F x (PtrTo Ts) := by exact ot_tmp rfl) (u : UndT P ty (.pointer e) := by infer_instance) : OpT P F M o (Is (.bool true)) :=
  opT_val fun tm V w hf _ _ => by
    obtain ⟨a, h1, _⟩ := hx.h tm V (hf _ (by simp [ho, Op.operands]))
    exact ⟨.bool true, by simp [execOp, ho, h1, ev_const, eqGuard, binOp, run_ptr_nil u], rfl⟩
theorem t_ptrNeM {ty ty' e : TypeId} {x : Operand} {a : Addr} (ho : o.op = .binOp .neq ty x (.const (.pointer none)) ty' := by rfl) (hx : OT F x (Is (.pointer (some a))) := by exact ot_tmp rfl) (u : UndT P ty (.pointer e) := by infer_instance) : OpT P F M o (Is (.bool true)) :=
  opT_val fun tm V w hf _ _ => by
    have h1 := ot_is hx hf (by simp [ho, Op.operands])
    exact ⟨.bool true, by simp [execOp, ho, h1, ev_const, eqGuard, binOp, run_ptr_nil u], rfl⟩
theorem t_nilCheck {x : Operand} {Ts : List Ty} (ho : o.op = .nilCheck x := by rfl) (hx : OT F x (PtrTo Ts) := by exact ot_tmp rfl) : OpT P F M o (PtrTo Ts) :=
  opT_val fun tm V w hf _ _ => by
    obtain ⟨a, h1, h2⟩ := hx.h tm V (hf _ (by simp [ho, Op.operands]))
    exact ⟨.pointer (some a), by simp [execOp, ho, h1], a, rfl, h2⟩
theorem t_slice_part {α : Type} [Enc α] {xs : List α} (ys : List α) {t e : TypeId} {x lo hi : Operand} {k k' : IntKind} {l h : Int} (ho : o.op = .slice t x (some lo) (some hi) none := by rfl) (hx : OT F x (Sl xs) := by first | exact ot_tmp rfl | exact ot_sub (ot_tmp rfl) sl_slf)
    (hlo : OT F lo (Is (.int k l)) := by first | exact ot_tmp rfl | exact ot_const) (hhi : OT F hi (Is (.int k' h)) := by first | exact ot_tmp rfl | exact ot_const) (u : UndT P t (.slice e) := by infer_instance) (sz : SizeT P e (Enc.sz α) := by infer_instance)
    (h0 : 0 ≤ l := by omega) (h1 : l ≤ h := by omega) (h2 : h ≤ xs.length := by omega) (hr : (xs.take h.toNat).drop l.toNat = ys) : OpT P F M o (Sl ys) := hr ▸ t_slice_lh ho hx hlo hhi u sz h0 h1 h2
end

/-- The bytes of packets, one behind the other. -/
def strm (ps : List Packet) : List UInt8 := ps.flatMap frame
theorem strm_len (ps : List Packet) : (strm ps).length = 20 * ps.length := by
  induction ps with
  | nil => rfl
  | cons p ps ih => simp only [strm, List.flatMap_cons, List.length_append, frame_len] at *; rw [ih]; simp only [List.length_cons]; omega
theorem strm_drop (ps : List Packet) : ∀ k, (strm ps).drop (20 * k) = strm (ps.drop k) := by
  induction ps with
  | nil => intro k; simp [strm]
  | cons p ps ih =>
    intro k
    cases k with
    | zero => rfl
    | succ k =>
      have e : strm (p :: ps) = frame p ++ strm ps := rfl
      rw [e, show 20 * (k + 1) = (frame p).length + 20 * k by rw [frame_len]; omega, List.drop_length_add_append, ih]; rfl
theorem strm_part (ps : List Packet) {k : Nat} (hk : k < ps.length) : ((strm ps).take (20 * k + 20)).drop (20 * k) = frame (ps.getD k default) := by
  rw [List.drop_take, strm_drop, drop_cons hk]
  have e : strm (ps.getD k default :: ps.drop (k + 1)) = frame (ps.getD k default) ++ strm (ps.drop (k + 1)) := rfl
  rw [e, show 20 * k + 20 - 20 * k = (frame (ps.getD k default)).length by rw [frame_len]; omega]
  exact List.take_left

theorem frames_fn (bs : List UInt8) : FnS Try.prog 60 [Sl bs] (Clo 129 [PtrTo [Sl bs]]) := by
  refine spec_enter Try.func60 rfl Try.ntmps60 Try.call60 (by simp) fun C hX => ?_
  refine g_seq ?_
  refine gl_region ?_
  refine gl_op (t_box_one (T := Sl bs) (hs := scal_sl bs)) ?_
  refine gl_op t_assign ?_
  refine gl_nil ?_
  refine g_seq ?_
  refine gl_region ?_
  refine gl_op (t_clo (xs := [.tmp 1]) (Cs := [PtrTo [Sl bs]])) ?_
  refine gl_op t_assign ?_
  refine gl_nil ?_
  exact g_ret Try.func60 () (res1e Try.results60 rfl rfl) (.inl rfl)

def frA (ps : List Packet) (k : Nat) : List Ty := [Is (.int .i64 (20 * k)), PtrTo (Enc.ty (ps.getD k default))]

theorem frames1_spec (ps : List Packet) (hp : ∀ p ∈ ps, PktP p) (hl : ps.length ≤ 1000) {ι : Type} (St : Nat → ι → List Res) (i0 : ι) :
    SpecR Try.prog 129 [YieldV Try.prog ps.length (frA ps) St, PtrTo [Sl (strm ps)]] (St 0 i0) ι (fun _ => anyTy) (fun i => St ps.length i) := by
  have hsl := strm_len ps
  refine spec_enterL Try.func129 rfl Try.ntmps129 Try.call129 (by simp) fun C hX hlt => ?_
  refine g_seq ?_
  refine gl_region ?_
  refine gl_op t_assign ?_
  refine gl_nil ?_
  refine g_block ?_
  refine g_loop (fun q : Nat × ι => q.1 ≤ ps.length) (fun q => [(3, Is (.int .i64 (20 * (q.1 : Int)))), (0, YieldV Try.prog ps.length (frA ps) St), (1, PtrTo [Sl (strm ps)])]) (fun q => St q.1 q.2) (fun q => ps.length - q.1) (fun H => ?_) (fun q hq ih => ?_)
  · refine g_subF ?_ (H (0, i0) (by simp))
    repeat (first | exact tf_nil | refine tf_cons (by first | exact ot_tmp rfl | exact ot_eq rfl (by first | (simp; done) | (congr 2; omega)) | exact ot_sub (ot_tmp rfl) sl_slf) ?_)
  · obtain ⟨k, i⟩ := q
    dsimp only at hq ih ⊢
    refine g_seq ?_
    refine g_seq ?_
    refine gl_region ?_
    refine gl_op t_move ?_
    refine gl_op t_load_one ?_
    refine gl_op t_len ?_
    refine gl_op t_lss ?_
    refine gl_nil ?_
    refine g_cond (ot_tmp rfl) (fun h => ?_) (fun h => ?_)
    · simp only [decide_eq_true_eq] at h
      have hk : k < ps.length := by omega
      have hpk := hp _ (getD_mem hk)
      refine g_skip ?_
      refine g_block ?_
      refine g_seq ?_
      refine gl_region ?_
      refine gl_op t_assign ?_
      refine gl_nil ?_
      refine g_seq ?_
      refine g_seq ?_
      refine gl_region ?_
      refine gl_op t_load_one ?_
      refine gl_op t_len ?_
      refine gl_op t_move ?_
      refine gl_op t_sub ?_
      refine gl_op t_geq ?_
      refine gl_nil ?_
      refine g_cond (ot_tmp rfl) (fun h => ?_) (fun h => ?_)
      · refine g_seq ?_
        refine gl_region ?_
        refine gl_op t_load_one ?_
        refine gl_op t_move ?_
        refine gl_op t_move ?_
        refine gl_op t_add ?_
        refine gl_op (t_slice_part (frame (ps.getD k default)) (hr := by rw [show (20 * (k : Int) + 20).toNat = 20 * k + 20 by omega, show (20 * (k : Int)).toNat = 20 * k by omega]; exact strm_part ps hk)) ?_
        refine gl_op (t_toArr (xs := frame (ps.getD k default)) (n := 20) (hn := frame_len _)) ?_
        refine gl_op (t_load_agg (n := 20) (Ts := (frame (ps.getD k default)).flatMap Enc.ty) (Us := (frame (ps.getD k default)).flatMap Enc.ty) (hn := by rw [length_flatMap, frame_len]; decide) (hU := List.take_of_length_le (by rw [length_flatMap, frame_len]; decide))) ?_
        refine gl_op (t_call (decode_fn _ hpk)) ?_
        refine gl_op t_move ?_
        refine gl_op t_extract ?_
        refine gl_op t_extract ?_
        refine gl_alloc (h := fun bl hbl => ?_)
        refine gl_opM0 m_store_agg (fun _ => ?_)
        refine gl_op t_assign ?_
        refine gl_nil ?_
        refine g_seq ?_
        refine gl_region ?_
        refine gl_op t_move ?_
        refine gl_op t_eql ?_
        refine gl_nil ?_
        refine g_cond (ot_tmp rfl) (fun _ => ?_) (fun h => absurd h (by decide))
        refine gl_region ?_
        refine gl_op t_assign ?_
        refine gl_nil ?_
        refine g_seq ?_
        refine g_seq ?_
        refine gl_region ?_
        refine gl_op t_move ?_
        refine gl_op t_move ?_
        refine gl_op t_move ?_
        refine gl_ent (e_cellsL (s := 31) rfl hlt hbl) ?_
        refine gl_opM (m_yield [] k i hk rfl) (fun i' => ?_)
        refine gl_op t_not ?_
        refine gl_nil ?_
        refine g_cond (ot_tmp rfl) (fun h => absurd h (by decide)) (fun _ => ?_)
        refine g_skip ?_
        refine g_seq ?_
        refine gl_region ?_
        refine gl_op t_move ?_
        refine gl_op t_add ?_
        refine gl_op t_assign ?_
        refine gl_nil ?_
        refine g_seq ?_
        refine gl_region ?_
        refine gl_op t_move ?_
        refine gl_op (t_ptrNeM) ?_
        refine gl_nil ?_
        refine g_cond (ot_tmp rfl) (fun _ => ?_) (fun h => by cases h)
        refine gl_region ?_
        refine gl_op t_move ?_
        refine gl_op t_add ?_
        refine gl_op t_assign ?_
        refine gl_nil ?_
        refine g_inBlock ?_
        refine g_subF ?_ (ih (k + 1, i') (by simp only []; omega) (by simp only []; omega))
        repeat (first | exact tf_nil | refine tf_cons (by first | exact ot_tmp rfl | exact ot_eq rfl (by congr 2; omega)) ?_)
      · exfalso
        simp only [decide_eq_false_iff_not] at h
        omega
    · simp only [decide_eq_false_iff_not] at h
      have hk : k = ps.length := by omega
      subst hk
      refine g_exit rfl ?_
      exact g_fin Try.func129 i (res_zero Try.results129) (.inl rfl)
end Go.Proofs.Ytkoinfegbkigcaa
