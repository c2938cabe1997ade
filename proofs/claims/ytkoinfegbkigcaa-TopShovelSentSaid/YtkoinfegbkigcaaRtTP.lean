/- A part of the proof: contracts of functions of the program, each for the inputs that its premises name. -/
import Derived.Test.YtkoinfegbkigcaaRtTO
namespace Go.Proofs.Ytkoinfegbkigcaa
open Go.Rt
set_option maxHeartbeats 400000

/-- The packet of a triple. -/
def pkt (s : Int) (q : Pk) : Packet := ⟨s, q.c, smp q.x, smp q.y, smp q.z⟩
theorem pkt_plain {s : Int} {q : Pk} (hs : 0 ≤ s ∧ s ≤ 255) (hc : q.c ≤ 65535) (h : q.ok) : PktP (pkt s q) :=
  ⟨⟨hs, by simp only [pkt]; omega, smp_good h.1, smp_good h.2.1, smp_good h.2.2⟩, smp_plain h.1, smp_plain h.2.1, smp_plain h.2.2⟩
theorem map_getD {α β : Type} [Inhabited α] [Inhabited β] (f : α → β) {l : List α} {i : Nat} (h : i < l.length) : (l.map f).getD i default = f (l.getD i default) := by
  simp [List.getD, h]

instance : Nonempty {p : Packet // PktOk p} := ⟨⟨⟨3, 0, smp 0, smp 0, smp 0⟩, by
  have h : SmpR 0 := by unfold SmpR; omega
  exact ⟨by simp only []; omega, by simp only []; omega, smp_good h, smp_good h, smp_good h⟩⟩⟩

theorem gones_len {g : Nat → Option (Int × Int × Int)} {ps : List Pk} (h : Sent g ps) {k : Nat} (hk : k < ps.length) : (gones ps (k + 1)).length ≤ (ps.getD k default).c + 1 - (ps.getD 0 default).c := by
  rw [gones_inv h k hk, List.length_map]
  refine Nat.le_trans (List.length_filter_le _ _) ?_
  rw [List.length_range']; exact Nat.le_refl _

theorem lost_fn (qs : List Pk) (g : Nat → Option (Int × Int × Int)) (h : Sent g qs) (hc : ∀ q ∈ qs, q.c ≤ 200) (hl : qs.length ≤ 200) :
    FnS Try.prog 11 [Sl (qs.map (pkt 3)), Is (.int .i64 3)] (Tup [Sl (gones qs qs.length), Va (0 : Int)]) := by
  have hps : ∀ p ∈ qs.map (pkt 3), PSrc 3 p := by
    intro p hp
    obtain ⟨q, hq, rfl⟩ := List.mem_map.1 hp
    exact ⟨rfl, (pkt_plain (by omega) (by have := hc q hq; omega) (h.ok q hq)).ok⟩
  have hok : ∀ p ∈ qs.map (pkt 3), PktOk p := fun p hp => (hps p hp).2
  have hpl : (qs.map (pkt 3)).length = qs.length := by simp
  have h55 : ∀ x : {x : Packet // PktOk x}, FnS Try.prog 55 [Va x.1] (Va ((fun _ : Packet => (0 : Int)) x.1)) := fun x => pcheck_fn _ x.2
  have hz : firstE ((qs.map (pkt 3)).map fun _ : Packet => (0 : Int)) = 0 := firstE_zero _ (by simp)
  have hcl : ∀ x : {p : Packet // PSrc 3 p}, FnS Try.prog 66 ([Va x.1] ++ [PtrTo [Is (.int .i64 3)]]) (Va false) := fun x => by
    have := lost1_fn x.1 x.2.2
    rw [x.2.1] at this
    exact this
  refine spec_enter Try.func11 rfl Try.ntmps11 Try.call11 (by simp) fun C hX => ?_
  refine g_seq ?_
  refine gl_region ?_
  refine gl_op (t_box_one (T := Is (.int .i64 3)) (hs := scal_is rfl)) ?_
  refine gl_op t_assign ?_
  refine gl_op t_assign ?_
  refine gl_nil ?_
  refine g_scope ?_
  refine g_seq ?_
  refine g_seq ?_
  refine gl_region ?_
  refine gl_op t_move ?_
  refine gl_op t_len ?_
  refine gl_op t_gtr ?_
  refine gl_nil ?_
  refine g_cond (ot_tmp rfl) (fun h => ?_) (fun _ => ?_)
  · exfalso
    simp only [decide_eq_true_eq] at h
    omega
  refine g_skip ?_
  refine g_seq ?_
  refine g_seq ?_
  refine gd_region 4 mixed (by kernel_rfl) ?_
  simp only [List.take_succ_cons, List.take_zero, List.drop_succ_cons, List.drop_zero]
  refine dl_op t_move ?_
  refine dl_op (t_call (mapped62_fn (qs.map (pkt 3)) PktOk (fun _ => 0) hok (by omega)) (hx := by exact ⟨ot_tmp rfl, ot_fn h55, trivial⟩)) ?_
  refine dl_op (t_call (first_fn _)) ?_
  refine dl_op t_load_one ?_
  refine dl_nil ?_
  refine gl_op (t_call (within_fn _ _ _)) ?_
  refine gl_op (t_buildSlice (α := Int)) ?_
  refine gl_op (t_call (first_fn _)) ?_
  refine gl_op t_assign ?_
  refine gl_nil ?_
  refine g_seq ?_
  refine gl_region ?_
  refine gl_op t_move ?_
  refine gl_op t_neq ?_
  refine gl_nil ?_
  refine g_cond (ot_tmp rfl) (fun h => ?_) (fun _ => ?_)
  · exfalso
    rw [hz] at h
    exact absurd h (by decide)
  refine g_skip ?_
  refine g_seq ?_
  refine gl_region ?_
  refine gl_op t_move ?_
  refine gl_op (t_call (clone_fn (qs.map (pkt 3)) (by omega))) ?_
  refine gl_op (t_closure (ι := {p : Packet // PSrc 3 p}) (A := fun p => [Va p.1]) (B := fun _ => Va false) (Cs := [PtrTo [Is (.int .i64 3)]]) (xs := [.tmp 3]) hcl) ?_
  refine gl_op (t_call (delete_fn _ hps)) ?_
  refine gl_op t_assign ?_
  refine gl_nil ?_
  refine g_seq ?_
  refine gl_region ?_
  refine gl_op t_assign ?_
  refine gl_nil ?_
  refine g_seq ?_
  refine g_label ?_
  refine g_seq ?_
  refine g_seq ?_
  refine gl_region ?_
  refine gl_op t_assign ?_
  refine gl_nil ?_
  refine g_block ?_
  refine g_ent (e_nilrow (E := 3) (α := Int)) ?_
  refine g_loop (fun q : Nat × Value => 1 ≤ q.1 ∧ (q.1 ≤ qs.length ∨ q.1 = 1)) (fun q => [(9, Is (.int .i64 q.1)), (7, Sl (qs.map (pkt 3))), (8, Is q.2)]) (fun q => [RowV q.2 3 (gones qs q.1)]) (fun q => qs.length + 1 - q.1) (fun H => ?_) (fun q hq ih => ?_)
  · refine g_subF ?_ (H (1, .slice none 0 0) ⟨by simp, by simp⟩)
    repeat (first | exact tf_nil | refine tf_cons (by first | exact ot_tmp rfl | exact ot_eq rfl (by first | (simp; done) | (congr 2; omega)) | exact ot_sub (ot_tmp rfl) sl_slf) ?_)
  · obtain ⟨i, v⟩ := q
    obtain ⟨h1, h2⟩ := hq
    dsimp only at h1 h2 ih ⊢
    refine g_seq ?_
    refine g_seq ?_
    refine gl_region ?_
    refine gl_op t_move ?_
    refine gl_op t_move ?_
    refine gl_op t_len ?_
    refine gl_op t_lss ?_
    refine gl_nil ?_
    refine g_cond (ot_tmp rfl) (fun hi => ?_) (fun hi => ?_)
    · simp only [decide_eq_true_eq] at hi
      have hi' : i < qs.length := by omega
      have e1 : ((qs.map (pkt 3)).getD (i - 1) default).ctr = ((qs.getD (i - 1) default).c : Int) := by rw [map_getD _ (by omega)]; rfl
      have e2 : ((qs.map (pkt 3)).getD i default).ctr = ((qs.getD i default).c : Int) := by rw [map_getD _ (by omega)]; rfl
      have c1 := hc _ (getD_mem (show i - 1 < qs.length by omega))
      have c2 := hc _ (getD_mem hi')
      have c3 := h.lt (i := i - 1) (j := i) (by omega) hi'
      have hgl := gones_len h (k := i - 1) (by omega)
      rw [show i - 1 + 1 = i by omega] at hgl
      have hgn : gones qs (i + 1) = gones qs i ++ (List.range' ((qs.getD (i - 1) default).c + 1) ((qs.getD i default).c - (qs.getD (i - 1) default).c - 1)).map (fun c : Nat => (c : Int)) := by rw [gones, if_neg (by omega)]
      obtain ⟨a, ha⟩ : ∃ a, a = (qs.getD (i - 1) default).c := ⟨_, rfl⟩
      obtain ⟨b, hb⟩ : ∃ b, b = (qs.getD i default).c := ⟨_, rfl⟩
      rw [← ha] at e1 c1 c3 hgl hgn
      rw [← hb] at e2 c2 c3 hgn
      refine g_skip ?_
      refine g_seq ?_
      refine g_block ?_
      refine g_seq ?_
      refine gl_region ?_
      refine gl_op t_move ?_
      refine gl_op t_move ?_
      refine gl_op t_sub ?_
      refine gl_op (t_index (n := (i : Int) - 1) (m := i - 1) (hm := by omega)) ?_
      refine gl_op t_field ?_
      refine gl_op t_load_one ?_
      refine gl_op t_add ?_
      refine gl_op (t_andm 16 (h1 := by show _ < (18446744073709551616 : Int); omega) (hw := fun r h0 h1 => IntWalk.i64_in _ (by omega))) ?_
      refine gl_op t_assign ?_
      refine gl_nil ?_
      refine g_block ?_
      refine g_loop (fun q : Nat × Value => a + 1 + q.1 ≤ b) (fun q => [(10, Is (.int .i64 ((a + 1 + q.1 : Nat) : Int))), (9, Is (.int .i64 i)), (7, Sl (qs.map (pkt 3))), (8, Is q.2)]) (fun q => [RowV q.2 3 (gones qs i ++ (List.range' (a + 1) q.1).map (fun c : Nat => (c : Int)))]) (fun q => b - q.1) (fun H => ?_) (fun q hq ih2 => ?_)
      · refine g_subF ?_ (g_eqM ?_ (H (0, v) (by simp only []; omega)))
        · repeat (first | exact tf_nil | refine tf_cons (by first | exact ot_tmp rfl | exact ot_eq rfl (by congr 2; omega)) ?_)
        · simp
      · obtain ⟨j, v'⟩ := q
        dsimp only at hq ih2 ⊢
        refine g_seq ?_
        refine g_seq ?_
        refine gl_region ?_
        refine gl_op t_move ?_
        refine gl_op t_move ?_
        refine gl_op t_move ?_
        refine gl_op (t_index (n := (i : Int)) (m := i) (hm := by omega)) ?_
        refine gl_op t_field ?_
        refine gl_op t_load_one ?_
        refine gl_op t_neq ?_
        refine gl_nil ?_
        refine g_cond (ot_tmp rfl) (fun h3 => ?_) (fun h3 => ?_)
        · simp only [decide_eq_true_eq] at h3
          have hlen2 : (gones qs i ++ (List.range' (a + 1) j).map (fun c : Nat => (c : Int))).length ≤ 205 := by
            rw [List.length_append, List.length_map, List.length_range']; omega
          refine g_skip ?_
          refine g_seq ?_
          refine g_block ?_
          refine g_seq ?_
          refine gl_region ?_
          refine gl_op t_move ?_
          refine gl_op t_move ?_
          refine gl_op (t_buildSlice (α := Int) (xs := [((a + 1 + j : Nat) : Int)])) ?_
          refine gl_opM m_append (fun v2 => ?_)
          refine gl_op t_assign ?_
          refine gl_nil ?_
          refine g_seq ?_
          refine gl_region ?_
          refine gl_op t_move ?_
          refine gl_op t_lenRow ?_
          refine gl_op t_gtr ?_
          refine gl_nil ?_
          refine g_cond (ot_tmp rfl) (fun h4 => ?_) (fun _ => ?_)
          · exfalso
            simp only [decide_eq_true_eq, List.length_append, List.length_cons, List.length_nil] at h4 hlen2
            omega
          refine g_skip ?_
          refine g_inBlock ?_
          refine gl_region ?_
          refine gl_op t_move ?_
          refine gl_op t_add ?_
          refine gl_op (t_andm 16 (h1 := by show _ < (18446744073709551616 : Int); omega) (hw := fun r h0 h1 => IntWalk.i64_in _ (by omega))) ?_
          refine gl_op t_assign ?_
          refine gl_nil ?_
          refine g_subF ?_ (g_eqM ?_ (ih2 (j + 1, v2) (by simp only []; omega) (by simp only []; omega)))
          · repeat (first | exact tf_nil | refine tf_cons (by first | exact ot_tmp rfl | exact ot_eq rfl (by congr 2; omega)) ?_)
          · dsimp only
            rw [List.range'_concat, List.map_append, Nat.one_mul, List.append_assoc]; rfl
        · simp only [decide_eq_false_iff_not, Decidable.not_not] at h3
          have hj : j = b - a - 1 := by omega
          refine g_exit rfl ?_
          refine g_inBlock ?_
          refine gl_region ?_
          refine gl_op t_move ?_
          refine gl_op t_add ?_
          refine gl_op t_assign ?_
          refine gl_nil ?_
          refine g_subF ?_ (g_eqM ?_ (ih (i + 1, v') ⟨by simp only []; omega, by simp only []; omega⟩ (by simp only []; omega)))
          · repeat (first | exact tf_nil | refine tf_cons (by first | exact ot_tmp rfl | exact ot_eq rfl (by first | (simp; done) | (congr 2; omega)) | exact ot_sub (ot_tmp rfl) sl_slf) ?_)
          · dsimp only
            rw [hgn, hj]
    · simp only [decide_eq_false_iff_not] at hi
      have hfin : gones qs i = gones qs qs.length ∧ (gones qs i).length ≤ 201 := by
        rcases Nat.eq_zero_or_pos qs.length with h0 | h0
        · have hi1 : i = 1 := by omega
          subst hi1
          rw [h0]
          exact ⟨by simp [gones], by simp [gones]⟩
        · have hi1 : i = qs.length := by omega
          subst hi1
          have h5 := gones_len h (k := qs.length - 1) (by omega)
          have h6 := hc _ (getD_mem (show qs.length - 1 < qs.length by omega))
          rw [show qs.length - 1 + 1 = qs.length by omega] at h5
          exact ⟨rfl, by omega⟩
      refine g_exit rfl ?_
      refine g_seq ?_
      refine g_seq ?_
      refine gl_region ?_
      refine gl_op t_move ?_
      refine gl_op t_lenRow ?_
      refine gl_op t_gtr ?_
      refine gl_nil ?_
      refine g_cond (ot_tmp rfl) (fun h4 => ?_) (fun _ => ?_)
      · exfalso
        simp only [decide_eq_true_eq] at h4
        omega
      refine g_skip ?_
      refine g_seq ?_
      refine gl_region ?_
      refine gl_op t_move ?_
      refine gl_op t_assign ?_
      refine gl_op t_assign ?_
      refine gl_nil ?_
      refine g_ent (e_row (s := 4) rfl hX) ?_
      rw [← hfin.1]
      exact g_ret Try.func11 () (res_two Try.results11 (rv_tmp rfl) (rv_tmp rfl)) (.inl rfl)
end Go.Proofs.Ytkoinfegbkigcaa
