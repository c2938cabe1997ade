/- A part of the proof: contracts of functions of the program, each for the inputs that its premises name. -/
import Derived.Test.YtkoinfegbkigcaaRtT1
import Derived.Test.YtkoinfegbkigcaaRtFacts2
import Derived.Test.YtkoinfegbkigcaaRtS
import Derived.Test.YtkoinfegbkigcaaRtN
namespace Go.Proofs.Ytkoinfegbkigcaa
open Go.Rt

theorem end_fn (r : Run) (h : 0 ≤ r.first ∧ r.first ≤ 100000000) (hl : r.xs.length ≤ 100000) : FnS Try.prog 69 [Va r] (Va (r.first + r.xs.length)) := by
  refine spec_enter Try.func69 rfl Try.ntmps69 Try.call69 (by simp) fun C hX => ?_
  refine g_seq ?_
  refine gl_region ?_
  refine gl_op t_box ?_
  refine gl_op t_assign ?_
  refine gl_nil ?_
  refine g_seq ?_
  refine gl_region ?_
  refine gl_op t_field ?_
  refine gl_op t_load_one ?_
  refine gl_op t_field ?_
  refine gl_op t_load_one ?_
  refine gl_op t_len ?_
  refine gl_op t_add ?_
  refine gl_op t_assign ?_
  refine gl_nil ?_
  refine g_ret Try.func69 () (res1e Try.results69 rfl ?_) (.inl rfl)
  rfl

theorem integer_fn (x : F32) (h : Good x) : FnS Try.prog 97 [Va x] (Va x.val) := by
  obtain ⟨m, h1, h2, h3, _⟩ := h.f.mul
  refine spec_enter Try.func97 rfl Try.ntmps97 Try.call97 (by simp) fun C hX => ?_
  refine g_seq ?_
  refine gl_region ?_
  refine gl_op t_assign ?_
  refine gl_nil ?_
  refine g_seq ?_
  refine gl_region ?_
  refine gl_op t_move ?_
  refine gl_op (t_farith (hr := h2)) ?_
  refine gl_op (t_conv_fi (hn := h3)) ?_
  refine gl_op t_assign ?_
  refine gl_nil ?_
  refine g_ret Try.func97 () (res1e Try.results97 rfl ?_) (.inl rfl)
  rfl

theorem sample_fn (n : Int) (h : SmpR n) : FnS Try.prog 71 [Va n] (Va (smp n)) := by
  refine spec_enter Try.func71 rfl Try.ntmps71 Try.call71 (by simp) fun C hX => ?_
  refine g_seq ?_
  refine gl_region ?_
  refine gl_op t_assign ?_
  refine gl_nil ?_
  refine g_seq ?_
  refine gl_region ?_
  refine gl_op t_move ?_
  refine gl_op (t_conv_if) ?_
  refine gl_op (t_farith (hr := smp_quo h)) ?_
  refine gl_op t_assign ?_
  refine gl_nil ?_
  refine g_ret Try.func71 () (res1e Try.results71 rfl ?_) (.inl rfl)
  rfl

theorem reading_fn (x : F32) (h : Good x) : FnS Try.prog 135 [Va x] (Va (Reading.mk x.val true)) := by
  refine spec_enter Try.func135 rfl Try.ntmps135 Try.call135 (by simp) fun C hX => ?_
  refine g_seq ?_
  refine gl_region ?_
  refine gl_opM m_alloc (fun bl => ?_)
  refine gl_nil ?_
  refine g_seq ?_
  refine gl_region ?_
  refine gl_op t_move ?_
  refine gl_op (t_call (integer_fn _ h)) ?_
  refine gl_op t_build ?_
  refine gl_opM0 m_store_agg (fun _ => ?_)
  refine gl_nil ?_
  refine g_ent (e_cells (s := 2) rfl (by simp [hX, ids])) ?_
  refine g_ret Try.func135 () (res_one Try.results135 (rv_va (x := Reading.mk x.val true) rfl)) (.inl rfl)

theorem checkPart_fn (x : F32) (hg : Good x) : FnS Try.prog 150 [Va x, Is (.int .i64 1024)] (Va (0 : Int)) := by
  obtain ⟨m, h1, h2, h3, h4, h5⟩ := hg.f.mul
  obtain ⟨z, h6, h7⟩ := hg.f.sub
  refine spec_enter Try.func150 rfl Try.ntmps150 Try.call150 (by simp) fun C hX => ?_
  refine g_seq ?_
  refine gl_region ?_
  refine gl_op t_assign ?_
  refine gl_nil ?_
  refine g_seq ?_
  refine g_seq ?_
  refine gl_region ?_
  refine gl_op t_move ?_
  refine gl_op t_move ?_
  refine gl_op (t_farith (hr := h6)) ?_
  refine gl_op (t_fcmp) ?_
  refine gl_nil ?_
  refine g_cond (ot_tmp rfl) (fun h => ?_) (fun _ => ?_)
  · rw [h7] at h; cases h
  refine g_skip ?_
  refine g_seq ?_
  refine g_seq ?_
  refine gl_region ?_
  refine gl_op t_move ?_
  refine gl_op t_move ?_
  refine gl_op (t_neg) ?_
  refine gl_op (t_conv_if) ?_
  refine gl_op (t_fcmp) ?_
  refine gl_op t_move ?_
  refine gl_guard (hop := fun _ => t_move) (h := ?_)
  refine gl_guard (hop := fun _ => t_move) (h := ?_)
  refine gl_guard (hop := fun _ => (t_conv_if)) (h := ?_)
  refine gl_guard (hop := fun _ => (t_fcmp)) (h := ?_)
  refine gl_op t_pick_or ?_
  refine gl_nil ?_
  refine g_cond (ot_tmp rfl) (fun h => ?_) (fun _ => ?_)
  · simp [hg.f.lss, hg.f.gtr] at h
  refine g_skip ?_
  refine g_seq ?_
  refine gl_region ?_
  refine gl_op t_move ?_
  refine gl_op (t_farith (hr := h1)) ?_
  refine gl_op t_move ?_
  refine gl_op (t_farith (hr := h1)) ?_
  refine gl_op (t_conv_fi (hn := h3)) ?_
  refine gl_op (t_conv_if) ?_
  refine gl_op (t_fcmp) ?_
  refine gl_op (t_call (when_fn _ _)) ?_
  refine gl_op t_assign ?_
  refine gl_nil ?_
  refine g_ret Try.func150 () (res1e Try.results150 rfl ?_) (.inl rfl)
  rw [h4]; rfl

theorem checkSample_fn (x : F32) (hg : Good x) : FnS Try.prog 94 [Va x] (Va (0 : Int)) := by
  refine spec_enter Try.func94 rfl Try.ntmps94 Try.call94 (by simp) fun C hX => ?_
  refine g_seq ?_
  refine gl_region ?_
  refine gl_op t_assign ?_
  refine gl_nil ?_
  refine g_seq ?_
  refine gl_region ?_
  refine gl_op t_move ?_
  refine gl_op (t_call (checkPart_fn _ hg)) ?_
  refine gl_op t_assign ?_
  refine gl_nil ?_
  exact g_ret Try.func94 () (res1e Try.results94 rfl rfl) (.inl rfl)

theorem nz_fn (x : F32) : FnS Try.prog 186 [Va x] (Va (fcmp .neq .f32 x.bits 0)) := by
  refine spec_enter Try.func186 rfl Try.ntmps186 Try.call186 (by simp) fun C hX => ?_
  refine g_seq ?_
  refine gl_region ?_
  refine gl_op t_assign ?_
  refine gl_nil ?_
  refine g_seq ?_
  refine gl_region ?_
  refine gl_op t_move ?_
  refine gl_op (t_fcmp) ?_
  refine gl_op t_assign ?_
  refine gl_nil ?_
  exact g_ret Try.func186 () (res1e Try.results186 rfl rfl) (.inl rfl)

theorem letter_fn (c : Int) : FnS Try.prog 183 [Is (.int .i32 c)] (Is (.bool (decide (97 ≤ c ∧ c ≤ 122 ∨ 65 ≤ c ∧ c ≤ 90)))) := by
  refine spec_enter Try.func183 rfl Try.ntmps183 Try.call183 (by simp) fun C hX => ?_
  refine g_seq ?_
  refine gl_region ?_
  refine gl_op t_assign ?_
  refine gl_nil ?_
  refine g_seq ?_
  refine gl_region ?_
  refine gl_op t_move ?_
  refine gl_op t_geq ?_
  refine gl_op t_move ?_
  refine gl_guard (hop := fun _ => t_move) (h := ?_)
  refine gl_guard (hop := fun _ => t_leq) (h := ?_)
  refine gl_op t_pick_and ?_
  refine gl_op t_move ?_
  refine gl_guard (hop := fun _ => t_move) (h := ?_)
  refine gl_guard (hop := fun _ => t_geq) (h := ?_)
  refine gl_guard (hop := fun _ => t_move (hx := by exact ot_when rfl (by assumption))) (h := ?_)
  refine gl_guard (hop := fun _ => t_move) (h := ?_)
  refine gl_guard (hop := fun _ => t_leq) (h := ?_)
  refine gl_guard (hop := fun _ => t_pick_and) (h := ?_)
  refine gl_op t_pick_or ?_
  refine gl_op t_assign ?_
  refine gl_nil ?_
  refine g_ret Try.func183 () (res1e Try.results183 rfl ?_) (.inl rfl)
  congr 2; simp [Bool.decide_or, Bool.decide_and]

theorem digit_fn (c : Int) : FnS Try.prog 184 [Is (.int .i32 c)] (Is (.bool (decide (48 ≤ c ∧ c ≤ 57)))) := by
  refine spec_enter Try.func184 rfl Try.ntmps184 Try.call184 (by simp) fun C hX => ?_
  refine g_seq ?_
  refine gl_region ?_
  refine gl_op t_assign ?_
  refine gl_nil ?_
  refine g_seq ?_
  refine gl_region ?_
  refine gl_op t_move ?_
  refine gl_op t_geq ?_
  refine gl_op t_move ?_
  refine gl_guard (hop := fun _ => t_move) (h := ?_)
  refine gl_guard (hop := fun _ => t_leq) (h := ?_)
  refine gl_op t_pick_and ?_
  refine gl_op t_assign ?_
  refine gl_nil ?_
  refine g_ret Try.func184 () (res1e Try.results184 rfl ?_) (.inl rfl)
  congr 2; simp [Bool.decide_and]

/-- A name: letters, digits and low lines, a letter first. -/
def NameOk (s : ByteArray) : Prop := 0 < s.size ∧ s.size ≤ 24 ∧ ∀ i, i < s.size →
  (97 ≤ (byteAt s i).toNat ∧ (byteAt s i).toNat ≤ 122 ∨ 65 ≤ (byteAt s i).toNat ∧ (byteAt s i).toNat ≤ 90) ∨ 0 < i ∧ (48 ≤ (byteAt s i).toNat ∧ (byteAt s i).toNat ≤ 57 ∨ (byteAt s i).toNat = 95)

theorem isName_fn (s : ByteArray) (h : NameOk s) : FnS Try.prog 132 [Is (.string s)] (Is (.bool true)) := by
  obtain ⟨hs1, hs2, hs3⟩ := h
  refine spec_enter Try.func132 rfl Try.ntmps132 Try.call132 (by simp) fun C hX => ?_
  refine g_seq ?_
  refine gl_region ?_
  refine gl_op t_assign ?_
  refine gl_nil ?_
  refine g_seq ?_
  refine g_seq ?_
  refine gl_region ?_
  refine gl_op t_move ?_
  refine gl_opM m_range (fun bi => ?_)
  refine gl_nil ?_
  refine g_block ?_
  refine g_loop (fun i : Nat => i ≤ s.size) (fun i => [(0, Is (.string s)), (6, Is (.pointer (some ⟨bi, 0, none⟩)))]) (fun i => [Iter bi s i]) (fun i => s.size - i) (fun H => ?_) (fun i hi ih => ?_)
  · refine g_subF ?_ (H 0 (by simp))
    repeat (first | exact tf_nil | refine tf_cons (by first | exact ot_tmp rfl | exact ot_eq rfl (by first | (simp; done) | (congr 2; omega)) | exact ot_sub (ot_tmp rfl) sl_slf) ?_)
  · refine g_seq ?_
    refine gl_region ?_
    rcases Nat.lt_or_ge i s.size with hlt | hge
    · have hb := hs3 i hlt
      refine gl_opM (m_next (pos := i) (hp := hlt) (ha := by omega)) (fun _ => ?_)
      refine gl_op t_extract ?_
      refine gl_nil ?_
      refine g_seq ?_
      refine g_cond (ot_tmp rfl) (fun _ => ?_) (fun h => by cases h)
      refine g_skip ?_
      refine g_block ?_
      refine g_seq ?_
      refine gl_region ?_
      refine gl_op t_extract ?_
      refine gl_op t_extract ?_
      refine gl_op t_assign ?_
      refine gl_op t_assign ?_
      refine gl_nil ?_
      refine g_seq ?_
      refine gl_region ?_
      refine gl_op t_move ?_
      refine gl_op (t_call (letter_fn _)) ?_
      refine gl_op t_not ?_
      refine gl_op t_move ?_
      refine gl_guard (hop := fun _ => t_move) (h := ?_)
      refine gl_guard (hop := fun _ => t_eql) (h := ?_)
      refine gl_guard (hop := fun _ => t_move (hx := by exact ot_when rfl (by assumption))) (h := ?_)
      refine gl_guard (hop := fun _ => t_move) (h := ?_)
      refine gl_guard (hop := fun _ => (t_call (digit_fn _))) (h := ?_)
      refine gl_guard (hop := fun _ => t_not) (h := ?_)
      refine gl_guard (hop := fun _ => t_move (hx := by exact ot_when rfl (by assumption))) (h := ?_)
      refine gl_guard (hop := fun _ => t_move) (h := ?_)
      refine gl_guard (hop := fun _ => t_neq) (h := ?_)
      refine gl_guard (hop := fun _ => t_pick_and) (h := ?_)
      refine gl_guard (hop := fun _ => t_pick_or) (h := ?_)
      refine gl_op t_pick_and ?_
      refine gl_nil ?_
      refine g_cond (ot_tmp rfl) (fun h => ?_) (fun _ => ?_)
      · exfalso
        simp at h
        omega
      · refine g_skip ?_
        refine g_inBlock ?_
        refine g_subF ?_ (ih (i + 1) (by omega) (by omega))
        repeat (first | exact tf_nil | refine tf_cons (by first | exact ot_tmp rfl | exact ot_eq rfl (by first | (simp; done) | (congr 2; omega)) | exact ot_sub (ot_tmp rfl) sl_slf) ?_)
    · refine gl_op (t_next_end (pos := i) (hp := hge)) ?_
      refine gl_op t_extract ?_
      refine gl_nil ?_
      refine g_seq ?_
      refine g_cond (ot_tmp rfl) (fun h => by cases h) (fun _ => ?_)
      refine g_exit rfl ?_
      refine g_seq ?_
      refine gl_region ?_
      refine gl_op t_move ?_
      refine gl_op t_len_str ?_
      refine gl_op t_gtr ?_
      refine gl_op t_move ?_
      refine gl_guard (hop := fun _ => t_move) (h := ?_)
      refine gl_guard (hop := fun _ => t_len_str) (h := ?_)
      refine gl_guard (hop := fun _ => t_leq) (h := ?_)
      refine gl_op t_pick_and ?_
      refine gl_op t_assign ?_
      refine gl_nil ?_
      refine g_ret Try.func132 () (res1e Try.results132 rfl ?_) (.inr rfl)
      have e1 : decide ((0 : Int) < (s.size : Int)) = true := by simp; omega
      have e2 : decide ((s.size : Int) ≤ 24) = true := by simp; omega
      rw [e1, e2]; rfl

end Go.Proofs.Ytkoinfegbkigcaa
