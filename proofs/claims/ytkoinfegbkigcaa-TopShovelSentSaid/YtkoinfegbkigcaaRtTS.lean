/- A part of the proof: contracts of functions of the program, each for the inputs that its premises name. -/
import Derived.Test.YtkoinfegbkigcaaRtV
namespace Go.Proofs.Ytkoinfegbkigcaa
open Go.Rt
set_option maxHeartbeats 1000000

instance : GoT Try.prog 31 D3 := goT_of rfl rfl

/-- A branch whose two ways meet behind it. -/
theorem g_if {P : Program} {C : Ctx} {b : Base} {n : Nat} {ds : List Deferred} {k : List Item} {F : List (Nat × Ty)} {M : List Res} {R : Value → World → Prop} {ι : Type} {c : Operand} {x y : Code} {q : Bool} (hc : OT F c (Is (.bool q))) (FF : ι → List (Nat × Ty)) (MM : ι → List Res)
    (ht : q = true → (∀ z, G P C b n ds k (FF z) (MM z) R) → G P C b n ds (.code x :: k) F M R) (hf : q = false → (∀ z, G P C b n ds k (FF z) (MM z) R) → G P C b n ds (.code y :: k) F M R)
    (hk : ∀ z, G P C b n ds k (FF z) (MM z) R) : G P C b n ds (.code (.cond c x y) :: k) F M R := g_cond hc (fun h => ht h hk) (fun h => hf h hk)

theorem m_store_frame {P : Program} {F : List (Nat × Ty)} {M : List Res} {o : Oper} (p : Packet) {x y : Operand} {t : TypeId} {b : Nat} {E : TypeId} {M' : List Res} (ho : o.op = .store t x y := by rfl) (hx : OT F x (Is (.pointer (some ⟨b, 0, none⟩))) := by exact ot_tmp rfl) (hy : OT F y (Agg ((frame p).flatMap Enc.ty)) := by exact ot_tmp rfl) (s : SizeT P t 20 := by infer_instance)
    (hu : Upd M (Cells b E (List.replicate 20 (Is (.int .u8 0)))) M' (Cells b E ((frame p).flatMap Enc.ty)) := by (repeat (first | exact Upd.head | apply Upd.tail)); first | done | fail) : OpM P F M o Unit (fun _ => anyTy) (fun _ => M') :=
  m_store_agg (n := 20) (Us := (frame p).flatMap Enc.ty) (Ts := List.replicate 20 (Is (.int .u8 0))) (Ts' := (frame p).flatMap Enc.ty) ho hx hy (hS := fun T hT => by obtain ⟨x, _, hx⟩ := List.mem_flatMap.1 hT; exact Enc.scal x T hx) (s := s) (hU := by rw [length_flatMap, frame_len]; rfl) (hu := hu) (hn := by simp) (hT := by simp)

theorem topSent_fn (ds : List D3) (L : Nat) (hL : L < 65536) (hds : ∀ d ∈ ds, D3ok d) : FnS Try.prog 3 [Sl ds, Is (.int .u16 L)] (Va true) := by
  refine spec_enter Try.func3 rfl Try.ntmps3 Try.call3 (by simp) fun C hX => ?_
  refine g_fact (s := 0) rfl sl_len fun hlen => ?_
  refine g_seq ?_
  refine gl_region ?_
  refine gl_op t_assign ?_
  refine gl_nil ?_
  refine g_seq ?_
  refine g_seq ?_
  refine gl_region ?_
  refine gl_op t_move ?_
  refine gl_op t_len ?_
  refine gl_op t_lss ?_
  refine gl_op t_move ?_
  refine gl_guard (hop := fun _ => t_move) (h := ?_)
  refine gl_guard (hop := fun _ => t_len) (h := ?_)
  refine gl_guard (hop := fun _ => t_gtr) (h := ?_)
  refine gl_op t_pick_or ?_
  refine gl_nil ?_
  refine g_cond (ot_tmp rfl) (fun h => ?_) (fun h => ?_)
  · refine g_seq ?_
    refine gl_region ?_
    refine gl_op (t_call (shovelSent_fn)) ?_
    refine gl_op t_assign ?_
    refine gl_nil ?_
    exact g_ret Try.func3 () (res1e Try.results3 rfl rfl) (.inr rfl)
  obtain ⟨n, hn⟩ : ∃ n, n = ds.length := ⟨_, rfl⟩
  have hn1 : 1 ≤ n ∧ n ≤ 12 := by
    simp only [Bool.or_eq_false_iff, decide_eq_false_iff_not] at h
    omega
  refine g_skip ?_
  refine g_seq ?_
  refine gl_region ?_
  refine gl_op t_build ?_
  refine gl_opM m_alloc (fun bl => ?_)
  refine gl_opM0 m_store_agg (fun _ => ?_)
  refine gl_nil ?_
  refine g_seq ?_
  refine gl_region ?_
  refine gl_op t_assign ?_
  refine gl_op t_assign ?_
  refine gl_nil ?_
  refine g_seq ?_
  refine g_seq ?_
  refine gl_region ?_
  refine gl_op t_move ?_
  refine gl_op t_len ?_
  refine gl_op t_move ?_
  refine gl_nil ?_
  refine g_block ?_
  revert bl; intro b5
  refine g_ent (e_nilrow (E := 32) (α := F32)) ?_
  refine g_ent (e_nilrow (E := 5) (α := UInt8)) ?_
  refine g_loop (fun q : Nat × Value × Value => q.1 ≤ ds.length)
    (fun q => [(48, Is (.int .i64 q.1)), (47, Is (.int .i64 ds.length)), (46, Sl ds), (0, Sl ds), (1, Is (.int .u16 L)), (5, Is (.pointer (some ⟨b5, 0, none⟩))), (6, Is q.2.1), (7, Sl (strm (backP ds L q.1))), (4, Is (.bool false))])
    (fun q => [RowV q.2.1 5 (strm (thereP ds L q.1)), RowV q.2.2 32 (wholeS ds q.1), Cells b5 28 [Is (.string rN), Is (.int .i64 0), Is q.2.2, Is (.slice none 0 0)]])
    (fun q => ds.length - q.1) (fun H => ?_) (fun q hq ih => ?_)
  · refine g_subF ?_ (H (0, .slice none 0 0, .slice none 0 0) (by simp))
    repeat (first | exact tf_nil | refine tf_cons (by first | exact ot_tmp rfl | exact ot_sub (ot_tmp rfl) nil_sl) ?_)
  · obtain ⟨k, v6, w5⟩ := q
    dsimp only at hq ih ⊢
    refine g_seq ?_
    refine gl_region ?_
    refine gl_op t_lss ?_
    refine gl_nil ?_
    refine g_seq ?_
    refine g_cond (ot_tmp rfl) (fun hi => ?_) (fun hi => ?_)
    · simp only [decide_eq_true_eq] at hi
      have hk : k < ds.length := by omega
      obtain ⟨d1, d2, d3⟩ := hds _ (getD_mem hk)
      obtain ⟨d, hd⟩ : ∃ d, d = ds.getD k default := ⟨_, rfl⟩
      rw [← hd] at d1 d2 d3
      refine g_skip ?_
      refine g_seq ?_
      refine g_block ?_
      refine g_seq ?_
      refine gl_region ?_
      refine gl_op t_move ?_
      refine gl_op t_index ?_
      refine gl_op t_load ?_
      refine gl_opM m_alloc (fun bl => ?_)
      refine gl_op t_assign ?_
      refine gl_opM0 m_store_agg (fun _ => ?_)
      refine gl_nil ?_
      refine g_seq ?_
      refine gl_region ?_
      refine gl_op t_move ?_
      rw [← hd]
      refine gl_op (t_indexArrM (m := 0)) ?_
      refine gl_op t_loadM_one ?_
      refine gl_op (t_conv_if) ?_
      refine gl_op (t_farith (hr := smp_quo d1)) ?_
      refine gl_op (t_indexArrM (m := 1)) ?_
      refine gl_op t_loadM_one ?_
      refine gl_op (t_conv_if) ?_
      refine gl_op (t_farith (hr := smp_quo d2)) ?_
      refine gl_op (t_indexArrM (m := 2)) ?_
      refine gl_op t_loadM_one ?_
      refine gl_op (t_conv_if) ?_
      refine gl_op (t_farith (hr := smp_quo d3)) ?_
      refine gl_op t_build ?_
      refine gl_op t_build ?_
      refine gl_opM m_alloc (fun bl => ?_)
      refine gl_opM0 m_store_agg (fun _ => ?_)
      refine gl_nil ?_
      refine g_seq ?_
      refine g_ent (e_cells (s := 10) rfl (by simp [hX, ids])) ?_
      refine g_ent (e_cells (s := 9) rfl (by simp [hX, ids])) ?_
      have hwl := wholeS_len ds k (by omega)
      have hp3 : PktP (pkt 3 (pkOf k d)) := pkt_plain (by omega) (by simp only [pkOf]; omega) ⟨d1, d2, d3⟩
      have hp4 : PktP (pkt 4 (pkOf (ds.length - 1 - k) (turn3 d))) := pkt_plain (by omega) (by simp only [pkOf]; omega) ⟨d3, d2, d1⟩
      have ectr : ((ds.length : Int) - 1 - (k : Int)) = ((ds.length - 1 - k : Nat) : Int) := by omega
      refine gd_region 4 mixed (by kernel_rfl) ?_
      simp only [List.take_succ_cons, List.take_zero, List.drop_succ_cons, List.drop_zero]
      refine dl_op t_fieldM ?_
      refine dl_op t_loadM_one ?_
      refine dl_op t_field ?_
      refine dl_op (t_slice_arr (smps d)) ?_
      refine dl_nil ?_
      skip
      refine gl_opM (m_append (hb := by rw [hwl]; show (3 * k + 3) * 4 ≤ _; omega) (h63 := by rw [hwl]; show 3 * k + 3 ≤ _; omega)) (fun w5' => ?_)
      refine gl_op t_fieldM ?_
      refine gl_opM0 (m_store_row (v := w5') (E' := 32) (xs := wholeS ds k ++ smps d) (by simp)) (fun _ => ?_)
      refine gl_nil ?_
      refine g_seq ?_
      refine gl_region ?_
      refine gl_op t_move ?_
      refine gl_op t_len ?_
      refine gl_op t_sub ?_
      refine gl_op t_move ?_
      refine gl_op t_sub ?_
      refine gl_op t_field ?_
      refine gl_op (t_indexArrP) ?_
      refine gl_op t_load_one ?_
      refine gl_op t_field ?_
      refine gl_op (t_indexArrP) ?_
      refine gl_op t_load_one ?_
      refine gl_op t_field ?_
      refine gl_op (t_indexArrP) ?_
      refine gl_op t_load_one ?_
      refine gl_op t_build ?_
      refine gl_op t_build ?_
      refine gl_opM m_alloc (fun bl => ?_)
      refine gl_opM0 m_store_agg (fun _ => ?_)
      refine gl_nil ?_
      refine g_seq ?_
      refine gl_region ?_
      refine gl_op t_load_agg ?_
      rw [ectr]
      refine gl_op (t_call (encode_fn (pkt 3 (pkOf k d)) hp3.ok)) ?_
      refine gl_op t_move ?_
      refine gl_op t_extract ?_
      refine gl_op t_extract ?_
      refine gl_opM m_alloc (fun bl => ?_)
      refine gl_opM0 (m_store_frame (pkt 3 (pkOf k d))) (fun _ => ?_)
      refine gl_op t_assign ?_
      refine gl_nil ?_
      refine g_seq ?_
      refine gl_region ?_
      refine gl_op t_loadM_agg ?_
      refine gl_op (t_call (encode_fn (pkt 4 (pkOf (ds.length - 1 - k) (turn3 d))) hp4.ok)) ?_
      refine gl_op t_move ?_
      refine gl_op t_extract ?_
      refine gl_op t_extract ?_
      refine gl_opM m_alloc (fun bl => ?_)
      refine gl_opM0 (m_store_frame (pkt 4 (pkOf (ds.length - 1 - k) (turn3 d)))) (fun _ => ?_)
      refine gl_op t_assign ?_
      refine gl_nil ?_
      refine g_seq ?_
      refine g_seq ?_
      refine gl_region ?_
      refine gl_op t_move ?_
      refine gl_op t_neq ?_
      refine gl_op t_move ?_
      refine gl_guard (hop := fun _ => t_move) (h := ?_)
      refine gl_guard (hop := fun _ => t_neq) (h := ?_)
      refine gl_op t_pick_or ?_
      refine gl_nil ?_
      refine g_cond (ot_tmp rfl) (fun h => absurd h (by decide)) (fun _ => ?_)
      refine g_ent (e_cells (s := 12) rfl (by simp [hX, ids])) ?_
      refine g_ent (e_cells (s := 14) rfl (by simp [hX, ids])) ?_
      refine g_ent (e_cells (s := 11) rfl (by simp [hX, ids])) ?_
      refine g_skip ?_
      refine g_seq ?_
      refine gl_region ?_
      refine gl_op t_move ?_
      refine gl_op t_move ?_
      refine gl_op t_shr ?_
      refine gl_op (t_andm 1 (h0 := shr_nn L k) (h1 := shr_lt L k hL) (hw := fun r h0 h1 => by simp [IntKind.wrap, IntKind.bits, IntKind.signed]; omega)) ?_
      refine gl_op t_eql ?_
      refine gl_nil ?_
      refine g_cond (ot_tmp rfl) (fun hkp => ?_) (fun hkp => ?_)
      · rw [keep_iff L k (by omega)] at hkp
        have hl1 := thereP_len ds L k
        have hl2 := backP_len ds L k
        have hf3 := frame_len (pkt 3 (pkOf k d))
        have hf4 := frame_len (pkt 4 (pkOf (ds.length - 1 - k) (turn3 d)))
        refine g_seq ?_
        refine gl_region ?_
        refine gl_op t_move ?_
        refine gl_op (t_slice_arr (frame (pkt 3 (pkOf k d))) (hn := frame_len _) (hT := List.take_of_length_le (by rw [length_flatMap, frame_len]; exact Nat.le_refl _))) ?_
        refine gl_opM (m_append (hb := by rw [hf3]; omega) (h63 := by rw [hf3]; omega)) (fun v6' => ?_)
        refine gl_op t_assign ?_
        refine gl_nil ?_
        refine gl_region ?_
        refine gl_opM (m_buildRow (α := UInt8) (xs := [])) (fun r1 => ?_)
        refine gl_op (t_slice_arr (frame (pkt 4 (pkOf (ds.length - 1 - k) (turn3 d)))) (hn := frame_len _) (hT := List.take_of_length_le (by rw [length_flatMap, frame_len]; exact Nat.le_refl _))) ?_
        refine gl_opM (m_append (hb := by rw [hf4]; simp) (h63 := by rw [hf4]; simp)) (fun r2 => ?_)
        refine gl_op t_move ?_
        refine gl_opM (m_append (hb := by rw [List.length_append, hf4, List.length_nil]; omega) (h63 := by rw [List.length_append, hf4, List.length_nil]; omega)) (fun r3 => ?_)
        refine gl_op t_assign ?_
        refine gl_nil ?_
        refine g_inBlock ?_
        refine gl_region ?_
        refine gl_op t_add ?_
        refine gl_op t_move ?_
        refine gl_nil ?_
        refine g_ent (e_row (s := 7) (v := r3) (E := 5) (xs := [] ++ frame (pkt 4 (pkOf (ds.length - 1 - k) (turn3 d))) ++ strm (backP ds L k)) rfl hX) ?_
        rw [List.nil_append, hd, ← backP_keep ds L k hkp, ← hd]
        refine g_subF ?_ (g_eqM ?_ (ih (k + 1, v6', w5') (by simp only []; omega) (by simp only []; omega)))
        · repeat (first | exact tf_nil | refine tf_cons (by first | exact ot_tmp rfl | exact ot_eq rfl (by first | (simp; done) | (congr 2; omega)) | exact ot_sub (ot_tmp rfl) sl_slf) ?_)
        · dsimp only
          rw [thereP_keep ds L k hkp, wholeS_succ ds hk, ← hd]; rfl
      · rw [keep_iff L k (by omega)] at hkp
        refine g_skip ?_
        refine g_inBlock ?_
        refine gl_region ?_
        refine gl_op t_add ?_
        refine gl_op t_move ?_
        refine gl_nil ?_
        refine g_subF ?_ (g_eqM ?_ (ih (k + 1, v6, w5') (by simp only []; omega) (by simp only []; omega)))
        · rw [← backP_lose ds L k hkp]
          repeat (first | exact tf_nil | refine tf_cons (by first | exact ot_tmp rfl | exact ot_eq rfl (by first | (simp; done) | (congr 2; omega)) | exact ot_sub (ot_tmp rfl) sl_slf) ?_)
        · dsimp only
          rw [thereP_lose ds L k hkp, wholeS_succ ds hk, ← hd]; rfl
    · simp only [decide_eq_false_iff_not] at hi
      have hk : k = ds.length := by omega
      subst hk
      clear ih
      rw [thereP_all, backP_all]
      have hS := sent_pks (ds := ds) (lost := L) hds
      have hB := sent_bks (ds := ds) (lost := L) hds
      have hpl : (pks ds L).length = (ks L ds.length).length := by simp [pks]
      have hbl : (bks ds L).length = (pks ds L).length := bks_len ds L
      have hkl := ks_len L ds.length
      have hSc : ∀ q ∈ pks ds L, q.c ≤ 11 := fun q hq => by
        simp only [pks, List.mem_map] at hq
        obtain ⟨i, hi, rfl⟩ := hq
        have := (mem_ks.1 hi).1
        simp only [pkOf]; omega
      have hBc : ∀ q ∈ bks ds L, q.c ≤ 11 := fun q hq => by
        simp only [bks, List.mem_map] at hq
        obtain ⟨i, hi, rfl⟩ := hq
        simp only [pkOf]; omega
      have hj1 := shovelJoined_fn 3 (by omega) (pks ds L) _ hS (fun q hq => by have := hSc q hq; omega) (by omega)
      have hj2 := shovelJoined_fn 4 (by omega) (bks ds L) _ hB (fun q hq => by have := hBc q hq; omega) (by omega)
      have hrc := received_fn ((pks ds L).map (pkt 3)) (fun p hp => by
        obtain ⟨q, hq, rfl⟩ := List.mem_map.1 hp
        exact pkt_plain (by omega) (by have := hSc q hq; omega) (hS.ok q hq)) (by rw [List.length_map]; omega)
      have hlo := lost_fn (pks ds L) _ hS (fun q hq => by have := hSc q hq; omega) (by omega)
      have hsl := strm_len ((pks ds L).map (pkt 3))
      rw [List.length_map] at hsl
      refine g_ent (e_row (s := 6) (v := v6) (E := 5) (xs := strm ((pks ds L).map (pkt 3))) rfl hX) ?_
      refine g_ent (e_rowIn (v := w5) (E := 32) (xs := wholeS ds ds.length) (b := b5) (E0 := 28) (j := 2) hX) ?_
      refine g_ent (e_cells (s := 5) rfl (by simp [hX, ids])) ?_
      refine g_exit rfl ?_
      refine g_seq ?_
      refine gl_region ?_
      refine gl_op t_move ?_
      refine gl_op (t_call hj1) ?_
      refine gl_op t_move ?_
      refine gl_op t_extract ?_
      refine gl_op t_extract ?_
      refine gl_opM m_alloc (fun bl => ?_)
      refine gl_opM0 m_store_agg (fun _ => ?_)
      refine gl_op t_assign ?_
      refine gl_nil ?_
      refine g_seq ?_
      refine gl_region ?_
      refine gl_op t_move ?_
      refine gl_op (t_call hj2) ?_
      refine gl_op t_move ?_
      refine gl_op t_extract ?_
      refine gl_op t_extract ?_
      refine gl_opM m_alloc (fun bl => ?_)
      refine gl_opM0 m_store_agg (fun _ => ?_)
      refine gl_op t_assign ?_
      refine gl_nil ?_
      refine g_seq ?_
      refine g_seq ?_
      refine gl_region ?_
      refine gl_op t_move ?_
      refine gl_op t_not ?_
      refine gl_op t_move ?_
      refine gl_guard (hop := fun _ => t_move) (h := ?_)
      refine gl_guard (hop := fun _ => t_not) (h := ?_)
      refine gl_op t_pick_or ?_
      refine gl_nil ?_
      refine g_cond (ot_tmp rfl) (fun h => absurd h (by decide)) (fun _ => ?_)
      refine g_ent (e_cells (s := 16) rfl (by simp [hX, ids])) ?_
      refine g_ent (e_cells (s := 18) rfl (by simp [hX, ids])) ?_
      refine g_skip ?_
      refine g_seq ?_
      refine gl_region ?_
      refine gl_op (t_buildSlice (α := UInt8) (xs := [])) ?_
      refine gl_op t_move ?_
      refine gl_op (t_append_full (α := UInt8)) ?_
      refine gl_op (t_call hrc) ?_
      refine gl_op t_move ?_
      refine gl_op t_extract ?_
      refine gl_op t_extract ?_
      refine gl_op t_extract ?_
      refine gl_op t_assign ?_
      refine gl_op t_assign ?_
      refine gl_op t_assign ?_
      refine gl_nil ?_
      refine g_seq ?_
      refine g_seq ?_
      refine gl_region ?_
      refine gl_op t_move ?_
      refine gl_op t_neq ?_
      refine gl_op t_move ?_
      refine gl_guard (hop := fun _ => t_move) (h := ?_)
      refine gl_guard (hop := fun _ => t_len) (h := ?_)
      refine gl_guard (hop := fun _ => t_gtr) (h := ?_)
      refine gl_op t_pick_or ?_
      refine gl_nil ?_
      refine g_cond (ot_tmp rfl) (fun h => absurd h (by decide)) (fun _ => ?_)
      refine g_skip ?_
      refine g_seq ?_
      refine gl_region ?_
      refine gl_op t_move ?_
      refine gl_op (t_call hlo) ?_
      refine gl_op t_move ?_
      refine gl_op t_extract ?_
      refine gl_op t_extract ?_
      refine gl_op t_assign ?_
      refine gl_op t_assign ?_
      refine gl_nil ?_
      refine g_seq ?_
      refine g_seq ?_
      refine gl_region ?_
      refine gl_op t_move ?_
      refine gl_op t_neq ?_
      refine gl_nil ?_
      refine g_cond (ot_tmp rfl) (fun h => absurd h (by decide)) (fun _ => ?_)
      refine g_skip ?_
      refine g_seq ?_
      refine gl_region ?_
      refine gl_op t_assign ?_
      refine gl_op t_assign ?_
      refine gl_nil ?_
      refine g_seq ?_
      refine g_seq ?_
      refine gl_region ?_
      refine gl_op t_move ?_
      refine gl_op t_len ?_
      refine gl_op t_move ?_
      refine gl_nil ?_
      refine g_block ?_
      obtain ⟨R1, hR1⟩ : ∃ R1, R1 = outR (pks ds L) (pks ds L).length := ⟨_, rfl⟩
      obtain ⟨R2, hR2⟩ : ∃ R2, R2 = outR (bks ds L) (bks ds L).length := ⟨_, rfl⟩
      obtain ⟨GS, hGS⟩ : ∃ GS, GS = gones (pks ds L) (pks ds L).length := ⟨_, rfl⟩
      rw [← hR1, ← hR2, ← hGS]
      refine g_loop (fun k : Nat => k ≤ ds.length)
        (fun k => [(160, Is (.int .i64 k)), (159, Is (.int .i64 ds.length)), (25, Is (.int .i64 (firstI (ks L k)))), (26, Is (.int .i64 (lastI (ks L k)))), (1, Is (.int .u16 L)), (0, Sl ds), (4, Is (.bool false)), (5, PtrTo [Is (.string rN), Is (.int .i64 0), Sl (wholeS ds ds.length), Is (.slice none 0 0)]), (16, PtrTo (Enc.ty R1)), (18, PtrTo (Enc.ty R2)), (20, Sl ((pks ds L).map (pkt 3))), (23, Sl GS)])
        (fun _ => []) (fun k => ds.length - k) (fun H => ?_) (fun k hq ih => ?_)
      · refine g_subF ?_ (H 0 (by simp))
        repeat (first | exact tf_nil | refine tf_cons (by first | exact ot_tmp rfl | exact ot_eq rfl rfl) ?_)
      · refine g_seq ?_
        refine gl_region ?_
        refine gl_op t_lss ?_
        refine gl_nil ?_
        refine g_seq ?_
        refine g_cond (ot_tmp rfl) (fun hi => ?_) (fun hi => ?_)
        · simp only [decide_eq_true_eq] at hi
          have hk : k < ds.length := by omega
          have hf1 := firstI_succ L k
          have hf2 := lastI_succ L k
          refine g_skip ?_
          refine g_seq ?_
          refine g_block ?_
          refine g_seq ?_
          refine gl_region ?_
          refine gl_op t_move ?_
          refine gl_op t_assign ?_
          refine gl_nil ?_
          refine g_seq ?_
          refine gl_region ?_
          refine gl_op t_move ?_
          refine gl_op t_move ?_
          refine gl_op t_shr ?_
          refine gl_op (t_andm 1 (h0 := shr_nn L k) (h1 := shr_lt L k hL) (hw := fun r h0 h1 => by simp [IntKind.wrap, IntKind.bits, IntKind.signed]; omega)) ?_
          refine gl_op t_eql ?_
          refine gl_nil ?_
          refine g_cond (ot_tmp rfl) (fun hkp => ?_) (fun hkp => ?_)
          · rw [keep_iff L k (by omega)] at hkp
            rw [if_pos hkp] at hf2
            refine g_seq ?_
            refine g_seq ?_
            refine gl_region ?_
            refine gl_op t_move ?_
            refine gl_op t_lss ?_
            refine gl_nil ?_
            refine g_cond (ot_tmp rfl) (fun hneg => ?_) (fun hneg => ?_)
            · simp only [decide_eq_true_eq] at hneg
              rw [if_pos ⟨hkp, hneg⟩] at hf1
              refine gl_region ?_
              refine gl_op t_move ?_
              refine gl_op t_assign ?_
              refine gl_nil ?_
              refine gl_region ?_
              refine gl_op t_move ?_
              refine gl_op t_assign ?_
              refine gl_nil ?_
              refine g_inBlock ?_
              refine gl_region ?_
              refine gl_op t_add ?_
              refine gl_op t_move ?_
              refine gl_nil ?_
              refine g_subF ?_ (ih (k + 1) (by omega) (by omega))
              repeat (first | exact tf_nil | refine tf_cons (by first | exact ot_tmp rfl | exact ot_eq rfl (by rw [hf1]) | exact ot_eq rfl (by rw [hf2])) ?_)
            · simp only [decide_eq_false_iff_not] at hneg
              rw [if_neg (fun hh => hneg hh.2)] at hf1
              refine g_skip ?_
              refine gl_region ?_
              refine gl_op t_move ?_
              refine gl_op t_assign ?_
              refine gl_nil ?_
              refine g_inBlock ?_
              refine gl_region ?_
              refine gl_op t_add ?_
              refine gl_op t_move ?_
              refine gl_nil ?_
              refine g_subF ?_ (ih (k + 1) (by omega) (by omega))
              repeat (first | exact tf_nil | refine tf_cons (by first | exact ot_tmp rfl | exact ot_eq rfl (by rw [hf1]) | exact ot_eq rfl (by rw [hf2])) ?_)
          · rw [keep_iff L k (by omega)] at hkp
            rw [if_neg (by rw [hkp]; simp)] at hf1 hf2
            refine g_skip ?_
            refine g_inBlock ?_
            refine gl_region ?_
            refine gl_op t_add ?_
            refine gl_op t_move ?_
            refine gl_nil ?_
            refine g_subF ?_ (ih (k + 1) (by omega) (by omega))
            repeat (first | exact tf_nil | refine tf_cons (by first | exact ot_tmp rfl | exact ot_eq rfl (by rw [hf1]) | exact ot_eq rfl (by rw [hf2])) ?_)
        · simp only [decide_eq_false_iff_not] at hi
          have hk : k = ds.length := by omega
          subst hk
          refine g_exit rfl ?_
          refine g_seq ?_
          refine g_seq ?_
          refine gl_region ?_
          refine gl_op t_move ?_
          refine gl_op t_lss ?_
          refine gl_nil ?_
          refine g_cond (ot_tmp rfl) (fun hneg => ?_) (fun hneg => ?_)
          · simp only [decide_eq_true_eq] at hneg
            have hnil := (firstI_neg _).1 hneg
            have hp0 : pks ds L = [] := by unfold pks; rw [hnil]; rfl
            have hb0 : bks ds L = [] := by unfold bks; rw [hnil]; rfl
            rw [hp0] at hR1
            rw [hb0] at hR2
            have hx1 : R1.xs = [] := by rw [hR1]; rfl
            have hx2 : R2.xs = [] := by rw [hR2]; rfl
            rw [hp0]
            refine g_seq ?_
            refine gl_region ?_
            refine gl_op t_move ?_
            refine gl_op t_len ?_
            refine gl_op t_eql ?_
            refine gl_op t_move ?_
            refine gl_guard (hop := fun _ => t_field) (h := ?_)
            refine gl_guard (hop := fun _ => t_load_one) (h := ?_)
            refine gl_guard (hop := fun _ => t_len) (h := ?_)
            refine gl_guard (hop := fun _ => t_eql) (h := ?_)
            refine gl_op t_pick_and ?_
            refine gl_op t_move ?_
            refine gl_guard (hop := fun _ => t_field) (h := ?_)
            refine gl_guard (hop := fun _ => t_load_one) (h := ?_)
            refine gl_guard (hop := fun _ => t_len) (h := ?_)
            refine gl_guard (hop := fun _ => t_eql) (h := ?_)
            refine gl_op t_pick_and ?_
            refine gl_op t_move ?_
            refine gl_guard (hop := fun _ => (t_call (shovelSent_fn))) (h := ?_)
            refine gl_op t_pick_and ?_
            refine gl_op t_assign ?_
            refine gl_nil ?_
            refine g_ret Try.func3 () (res1e Try.results3 rfl ?_) (.inr rfl)
            show Is (.bool _) = Is (.bool true)
            congr 2
            simp [hx1, hx2]
          · simp only [decide_eq_false_iff_not] at hneg
            have hne : ks L ds.length ≠ [] := fun h => hneg ((firstI_neg _).2 h)
            have hpos := List.length_pos_iff.2 hne
            obtain ⟨m, hm⟩ : ∃ m, m + 1 = (pks ds L).length := ⟨(pks ds L).length - 1, by omega⟩
            obtain ⟨a1, a2, a3, a4, a5⟩ := jrun_inv hS m (by omega)
            have hgn := gones_inv hS m (by omega)
            have hrev := back_rev (ds := ds) (lost := L) hds m hm
            obtain ⟨b1, b2, b3, b4, b5'⟩ := jrun_inv hB m (by omega)
            have hcf : ((pks ds L).getD 0 default).c = (ks L ds.length).getD 0 default := pks_c (by omega)
            have hcl : ((pks ds L).getD m default).c = (ks L ds.length).getD m default := pks_c (by omega)
            have hbf := bks_c (ds := ds) (lost := L) (i := 0) (by omega)
            rw [show (pks ds L).length - 1 - 0 = m by omega] at hbf
            have hfi : firstI (ks L ds.length) = (((pks ds L).getD 0 default).c : Int) := by rw [hcf]; exact firstI_get hpos
            have hla : lastI (ks L ds.length) = (((pks ds L).getD m default).c : Int) := by
              rw [hcl, show m = (ks L ds.length).length - 1 by omega]; exact lastI_get hpos
            have hlt : ((pks ds L).getD m default).c < ds.length := by rw [hcl]; exact (mem_ks.1 (getD_mem (by omega))).1
            rw [← hm] at hR1 hGS
            rw [hbl, ← hm] at hR2
            rw [hgn] at hGS
            obtain ⟨a, ha⟩ : ∃ a, a = ((pks ds L).getD 0 default).c := ⟨_, rfl⟩
            obtain ⟨b, hb⟩ : ∃ b, b = ((pks ds L).getD m default).c := ⟨_, rfl⟩
            obtain ⟨LR, hLR⟩ : ∃ LR, LR = (jrun (pks ds L) (m + 1)).2 := ⟨_, rfl⟩
            have hR1' : R1 = W rN (3 * (a : Int)) LR := by rw [hR1, outR, a1, ← ha, hLR]
            have hR2' : R2 = W rN (3 * ((ds.length - 1 - b : Nat) : Int)) LR.reverse := by rw [hR2, outR, b1, hbf, ← hb, hrev, hLR]
            rw [← hLR] at a3 a4 a5
            rw [← ha] at hfi hGS a2 a3 a5
            rw [← hb] at hla hGS a2 a3 hlt
            rw [hfi, hla]
            have hx1 : R1.xs.length = LR.length := by rw [hR1']; exact W_len _ _ _
            have hf1 : R1.first = 3 * (a : Int) := by rw [hR1']; rfl
            have hok1 : RunOk R1 := by rw [hR1']; exact runOk_W rN_ok (by omega) (by omega) (by omega) a4
            have hrd : rds R1 = LR := by rw [hR1']; exact rds_W a4
            refine g_skip ?_
            refine g_seq ?_
            refine g_seq ?_
            refine gl_region ?_
            refine gl_op t_field ?_
            refine gl_op t_load_one ?_
            refine gl_op t_move ?_
            refine gl_op t_mul ?_
            refine gl_op t_neq ?_
            refine gl_op t_move ?_
            refine gl_guard (hop := fun _ => t_field) (h := ?_)
            refine gl_guard (hop := fun _ => t_load_one) (h := ?_)
            refine gl_guard (hop := fun _ => t_len) (h := ?_)
            refine gl_guard (hop := fun _ => t_move) (h := ?_)
            refine gl_guard (hop := fun _ => t_add) (h := ?_)
            refine gl_guard (hop := fun _ => t_move) (h := ?_)
            refine gl_guard (hop := fun _ => t_sub) (h := ?_)
            refine gl_guard (hop := fun _ => t_mul) (h := ?_)
            refine gl_guard (hop := fun _ => t_neq) (h := ?_)
            refine gl_op t_pick_or ?_
            refine gl_nil ?_
            refine g_cond (ot_tmp rfl) (fun h => ?_) (fun _ => ?_)
            · exfalso
              simp only [Bool.or_eq_true, decide_eq_true_eq] at h
              omega
            refine g_skip ?_
            refine g_seq ?_
            refine gl_region ?_
            refine gl_op t_assign ?_
            refine gl_nil ?_
            refine g_seq ?_
            refine g_seq ?_
            refine gl_region ?_
            refine gl_op t_move ?_
            refine gl_op t_assign ?_
            refine gl_nil ?_
            refine g_block ?_
            refine g_ent (e_nilrow (E := 3) (α := Int)) ?_
            refine g_loop (fun q : Nat × Value => a ≤ q.1 ∧ q.1 ≤ b + 1)
              (fun q => [(29, Is (.int .i64 q.1)), (28, Is q.2), (25, Is (.int .i64 a)), (26, Is (.int .i64 b)), (1, Is (.int .u16 L)), (0, Sl ds), (4, Is (.bool false)), (5, PtrTo [Is (.string rN), Is (.int .i64 0), Sl (wholeS ds ds.length), Is (.slice none 0 0)]), (16, PtrTo (Enc.ty R1)), (18, PtrTo (Enc.ty R2)), (23, Sl GS)])
              (fun q => [RowV q.2 3 (((List.range' a (q.1 - a)).filter fun c : Nat => (gd ds L c).isNone).map (fun c : Nat => (c : Int)))]) (fun q => b + 1 - q.1) (fun H => ?_) (fun q hq ih => ?_)
            · refine g_subF ?_ (g_eqM ?_ (H (a, .slice none 0 0) (by simp only []; omega)))
              · repeat (first | exact tf_nil | refine tf_cons (by first | exact ot_tmp rfl | exact ot_eq rfl (by first | (simp; done) | (congr 2; omega)) | exact ot_sub (ot_tmp rfl) sl_slf) ?_)
              · simp
            · obtain ⟨i, v⟩ := q
              obtain ⟨q1, q2⟩ := hq
              dsimp only at q1 q2 ih ⊢
              refine g_seq ?_
              refine g_seq ?_
              refine gl_region ?_
              refine gl_op t_move ?_
              refine gl_op t_move ?_
              refine gl_op t_leq ?_
              refine gl_nil ?_
              refine g_cond (ot_tmp rfl) (fun hi => ?_) (fun hi => ?_)
              · simp only [decide_eq_true_eq] at hi
                have hib : i ≤ b := by omega
                have hin : i < ds.length := by omega
                refine g_skip ?_
                refine g_seq ?_
                refine g_block ?_
                refine g_seq ?_
                refine g_seq ?_
                refine gl_region ?_
                refine gl_op t_move ?_
                refine gl_op t_move ?_
                refine gl_op t_shr ?_
                refine gl_op (t_andm 1 (h0 := shr_nn L i) (h1 := shr_lt L i hL) (hw := fun r h0 h1 => by simp [IntKind.wrap, IntKind.bits, IntKind.signed]; omega)) ?_
                refine gl_op t_eql ?_
                refine gl_nil ?_
                have er : List.range' a (i + 1 - a) = List.range' a (i - a) ++ [i] := by
                  rw [show i + 1 - a = (i - a) + 1 by omega, List.range'_concat, Nat.one_mul, show a + (i - a) = i by omega]
                refine g_if (ot_tmp rfl) (fun v' : Value => [(29, Is (.int .i64 i)), (28, Is v'), (25, Is (.int .i64 a)), (26, Is (.int .i64 b)), (1, Is (.int .u16 L)), (0, Sl ds), (4, Is (.bool false)), (5, PtrTo [Is (.string rN), Is (.int .i64 0), Sl (wholeS ds ds.length), Is (.slice none 0 0)]), (16, PtrTo (Enc.ty R1)), (18, PtrTo (Enc.ty R2)), (23, Sl GS)])
                  (fun v' => [RowV v' 3 (((List.range' a (i + 1 - a)).filter fun c : Nat => (gd ds L c).isNone).map (fun c : Nat => (c : Int)))]) (fun hl H => ?_) (fun hl H => ?_) (fun v' => ?_)
                · rw [lost_iff L i (by omega)] at hl
                  have hg : gd ds L i = none := by unfold gd; rw [if_neg (fun hh => by rw [hh.2] at hl; cases hl)]
                  have hfl : ((List.range' a (i - a)).filter fun c : Nat => (gd ds L c).isNone).length ≤ 12 := Nat.le_trans (List.length_filter_le _ _) (by rw [List.length_range']; omega)
                  refine gl_region ?_
                  refine gl_op t_move ?_
                  refine gl_op t_move ?_
                  refine gl_op (t_buildSlice (α := Int) (xs := [(i : Int)])) ?_
                  refine gl_opM (m_append (hb := by rw [List.length_map]; simp only [List.length_cons, List.length_nil]; omega) (h63 := by rw [List.length_map]; simp only [List.length_cons, List.length_nil]; omega)) (fun v1 => ?_)
                  refine gl_op t_assign ?_
                  refine gl_nil ?_
                  refine g_subF ?_ (g_eqM ?_ (H v1))
                  · repeat (first | exact tf_nil | refine tf_cons (by first | exact ot_tmp rfl | exact ot_eq rfl (by first | (simp; done) | (congr 2; omega)) | exact ot_sub (ot_tmp rfl) sl_slf) ?_)
                  · rw [er, List.filter_append, List.map_append]
                    simp [hg]
                · rw [lost_iff L i (by omega)] at hl
                  have hkp : keepAt L i = true := by simpa using hl
                  have hg : gd ds L i = some (ds.getD i default) := by unfold gd; rw [if_pos ⟨hin, hkp⟩]
                  refine g_skip ?_
                  refine g_subF ?_ (g_eqM ?_ (H v))
                  · repeat (first | exact tf_nil | refine tf_cons (by first | exact ot_tmp rfl | exact ot_eq rfl (by first | (simp; done) | (congr 2; omega)) | exact ot_sub (ot_tmp rfl) sl_slf) ?_)
                  · rw [er, List.filter_append, List.map_append]
                    simp [hg]
                · refine g_seq ?_
                  refine gl_region ?_
                  refine gl_op t_move ?_
                  refine gl_op t_mul ?_
                  refine gl_op t_assign ?_
                  refine gl_nil ?_
                  refine g_block ?_
                  refine g_loop (fun j : Nat => j ≤ 3) (fun j => [(30, Is (.int .i64 (3 * (i : Int) + j))), (29, Is (.int .i64 i)), (28, Is v'), (25, Is (.int .i64 a)), (26, Is (.int .i64 b)), (1, Is (.int .u16 L)), (0, Sl ds), (4, Is (.bool false)), (5, PtrTo [Is (.string rN), Is (.int .i64 0), Sl (wholeS ds ds.length), Is (.slice none 0 0)]), (16, PtrTo (Enc.ty R1)), (18, PtrTo (Enc.ty R2)), (23, Sl GS)])
                    (fun _ => [RowV v' 3 (((List.range' a (i + 1 - a)).filter fun c : Nat => (gd ds L c).isNone).map (fun c : Nat => (c : Int)))]) (fun j => 3 - j) (fun H => ?_) (fun j hj ih2 => ?_)
                  · refine g_subF ?_ (H 0 (by omega))
                    repeat (first | exact tf_nil | refine tf_cons (by first | exact ot_tmp rfl | exact ot_eq rfl (by congr 2; omega)) ?_)
                  · refine g_seq ?_
                    refine g_seq ?_
                    refine gl_region ?_
                    refine gl_op t_move ?_
                    refine gl_op t_move ?_
                    refine gl_op t_mul ?_
                    refine gl_op t_add ?_
                    refine gl_op t_lss ?_
                    refine gl_nil ?_
                    refine g_cond (ot_tmp rfl) (fun h3 => ?_) (fun h3 => ?_)
                    · simp only [decide_eq_true_eq] at h3
                      have hj3 : j < 3 := by omega
                      have hat : (rds R1).getD (3 * (i - a) + j) default = rdAt (gd ds L i) j := by
                        rw [hrd, a5 _ (by omega), show a + (3 * (i - a) + j) / 3 = i by omega, show (3 * (i - a) + j) % 3 = j by omega]
                      have hfa := at_fn R1 hok1 (3 * (i : Int) + j) (3 * (i - a) + j) (by rw [hf1]; omega) (by omega)
                      rw [hat] at hfa
                      have hol := hok1.len
                      have hoh := hok1.hlen
                      have hwl := wholeS_len ds ds.length (Nat.le_refl _)
                      have hwg := wholeS_get ds ds.length (Nat.le_refl _) i j hin hj3
                      rw [smps_get _ hj3] at hwg
                      have hcmp := cmp_ok (L := L) (j := j) hin (hds _ (getD_mem hin))
                      obtain ⟨kn, hkn⟩ : ∃ kn, kn = (rdAt (gd ds L i) j).known := ⟨_, rfl⟩
                      obtain ⟨xx, hxx⟩ : ∃ xx, xx = smp (rdAt (gd ds L i) j).n := ⟨_, rfl⟩
                      rw [← hkn, ← hxx] at hfa hcmp
                      refine g_skip ?_
                      refine g_seq ?_
                      refine g_block ?_
                      refine g_seq ?_
                      refine gl_region ?_
                      refine gl_op t_loadV ?_
                      refine gl_op (t_call (own_fn R1 (by omega) hoh)) ?_
                      refine gl_op t_move ?_
                      refine gl_op (t_call hfa) ?_
                      refine gl_op t_move ?_
                      refine gl_op t_extract ?_
                      refine gl_op t_extract ?_
                      refine gl_op t_extract ?_
                      refine gl_op t_assign ?_
                      refine gl_op t_assign ?_
                      refine gl_op t_assign ?_
                      refine gl_nil ?_
                      refine g_seq ?_
                      refine gl_region ?_
                      refine gl_op t_move ?_
                      refine gl_op t_neq ?_
                      refine gl_op t_move ?_
                      refine gl_guard (hop := fun _ => t_move) (h := ?_)
                      refine gl_guard (hop := fun _ => t_move) (h := ?_)
                      refine gl_guard (hop := fun _ => t_move) (h := ?_)
                      refine gl_guard (hop := fun _ => (t_shr (hx := by exact ot_when rfl (by assumption)) (hy := by exact ot_when rfl (by assumption)))) (h := ?_)
                      refine gl_guard (hop := fun _ => t_andm 1 (hx := by exact ot_when rfl (by assumption)) (h0 := shr_nn L i) (h1 := shr_lt L i hL) (hw := fun r h0 h1 => by simp [IntKind.wrap, IntKind.bits, IntKind.signed]; omega)) (h := ?_)
                      refine gl_guard (hop := fun _ => t_eql) (h := ?_)
                      refine gl_guard (hop := fun _ => (t_neb (hx := by exact ot_when rfl (by assumption)) (hy := by exact ot_when rfl (by assumption)))) (h := ?_)
                      refine gl_op t_pick_or ?_
                      refine gl_op t_move ?_
                      refine gl_guard (hop := fun _ => t_move) (h := ?_)
                      refine gl_guard (hop := fun _ => t_move (hx := by exact ot_when rfl (by assumption))) (h := ?_)
                      refine gl_guard (hop := fun _ => t_move) (h := ?_)
                      refine gl_guard (hop := fun _ => t_field) (h := ?_)
                      refine gl_guard (hop := fun _ => t_load_one) (h := ?_)
                      refine gl_guard (hop := fun _ => t_move) (h := ?_)
                      refine gl_guard (hop := fun _ => (t_index (hx := by exact ot_when rfl (by assumption)) (hi := by exact ot_when rfl (by assumption)) (n := 3 * (i : Int) + j) (h0 := by omega) (hn := by rw [hwl]; omega) (m := 3 * i + j) (hm := by omega))) (h := ?_)
                      refine gl_guard (hop := fun _ => t_load_one) (h := ?_)
                      refine gl_guard (hop := fun _ => (t_fcmp)) (h := ?_)
                      refine gl_guard (hop := fun _ => t_pick_and) (h := ?_)
                      refine gl_op t_pick_or ?_
                      refine gl_nil ?_
                      refine g_cond (ot_tmp rfl) (fun hc => ?_) (fun hc => ?_)
                      · exfalso
                        rw [keep_iff L i (by omega), hwg, hcmp] at hc
                        cases hc
                      · clear hc
                        refine g_skip ?_
                        refine g_inBlock ?_
                        refine gl_region ?_
                        refine gl_op t_move ?_
                        refine gl_op t_add ?_
                        refine gl_op t_assign ?_
                        refine gl_nil ?_
                        refine g_subF ?_ (ih2 (j + 1) (by omega) (by omega))
                        repeat (first | exact tf_nil | refine tf_cons (by first | exact ot_tmp rfl | exact ot_eq rfl (by congr 2; omega)) ?_)
                    · simp only [decide_eq_false_iff_not] at h3
                      refine g_exit rfl ?_
                      refine g_inBlock ?_
                      refine gl_region ?_
                      refine gl_op t_move ?_
                      refine gl_op t_add ?_
                      refine gl_op t_assign ?_
                      refine gl_nil ?_
                      refine g_subF ?_ (ih (i + 1, v') (by simp only []; omega) (by simp only []; omega))
                      repeat (first | exact tf_nil | refine tf_cons (by first | exact ot_tmp rfl | exact ot_eq rfl (by first | (simp; done) | (congr 2; omega)) | exact ot_sub (ot_tmp rfl) sl_slf) ?_)
              · simp only [decide_eq_false_iff_not] at hi
                have hib : i = b + 1 := by omega
                subst hib
                clear ih
                rw [← hGS]
                refine g_ent (e_row (s := 28) (v := v) (E := 3) (xs := GS) rfl hX) ?_
                have hrv : FnS Try.prog 14 [Va R1] (Tup [Va (W rN (3 * (a : Int)) LR.reverse), Va (0 : Int)]) := by
                  have h := reversed_fn R1 hok1
                  have hnm : R1.name = rN := by rw [hR1']; rfl
                  rw [hrd, hnm, hf1] at h
                  exact h
                have hol := hok1.len
                have hoh := hok1.hlen
                obtain ⟨X, hXX⟩ : ∃ X, X = LR.reverse.map (fun x => smp x.n) := ⟨_, rfl⟩
                obtain ⟨HH, hHH⟩ : ∃ HH, HH = holesOf LR.reverse := ⟨_, rfl⟩
                have hW2 : ∀ f, W rN f LR.reverse = ⟨rN, f, X, HH⟩ := fun f => by rw [hXX, hHH]; rfl
                have hgd2 : ∀ x ∈ X, Good x := by
                  intro x hx
                  rw [hXX] at hx
                  obtain ⟨y, hy, rfl⟩ := List.mem_map.1 hx
                  exact smp_good (a4 y (List.mem_reverse.1 hy)).1
                rw [hW2] at hrv
                rw [hR2', hW2]
                refine g_exit rfl ?_
                refine g_seq ?_
                refine gl_region ?_
                refine gl_op t_loadV ?_
                refine gl_op (t_call (own_fn R1 (by omega) hoh)) ?_
                refine gl_op (t_call hrv) ?_
                refine gl_op t_move ?_
                refine gl_op t_extract ?_
                refine gl_op t_extract ?_
                refine gl_opM m_alloc (fun bl => ?_)
                refine gl_opM0 m_store_agg (fun _ => ?_)
                refine gl_op t_assign ?_
                refine gl_nil ?_
                refine g_seq ?_
                refine gl_region ?_
                refine gl_op t_move ?_
                refine gl_op t_move ?_
                refine gl_op (t_call (sameInts_fn GS)) ?_
                refine gl_op t_move ?_
                refine gl_guard (hop := fun _ => t_move) (h := ?_)
                refine gl_guard (hop := fun _ => t_eql) (h := ?_)
                refine gl_op t_pick_and ?_
                refine gl_op t_move ?_
                refine gl_guard (hop := fun _ => t_fieldM) (h := ?_)
                refine gl_guard (hop := fun _ => t_loadM_one) (h := ?_)
                refine gl_guard (hop := fun _ => t_field) (h := ?_)
                refine gl_guard (hop := fun _ => t_load_one) (h := ?_)
                refine gl_guard (hop := fun _ => (t_call (sameSamples_fn X hgd2))) (h := ?_)
                refine gl_op t_pick_and ?_
                refine gl_op t_move ?_
                refine gl_guard (hop := fun _ => t_fieldM) (h := ?_)
                refine gl_guard (hop := fun _ => t_loadM_one) (h := ?_)
                refine gl_guard (hop := fun _ => t_field) (h := ?_)
                refine gl_guard (hop := fun _ => t_load_one) (h := ?_)
                refine gl_guard (hop := fun _ => (t_call (sameSpans_fn HH))) (h := ?_)
                refine gl_op t_pick_and ?_
                refine gl_op t_move ?_
                refine gl_guard (hop := fun _ => t_field) (h := ?_)
                refine gl_guard (hop := fun _ => t_load_one) (h := ?_)
                refine gl_guard (hop := fun _ => t_move) (h := ?_)
                refine gl_guard (hop := fun _ => t_len) (h := ?_)
                refine gl_guard (hop := fun _ => t_sub) (h := ?_)
                refine gl_guard (hop := fun _ => t_move) (h := ?_)
                refine gl_guard (hop := fun _ => t_sub) (h := ?_)
                refine gl_guard (hop := fun _ => t_mul) (h := ?_)
                refine gl_guard (hop := fun _ => t_eql) (h := ?_)
                refine gl_op t_pick_and ?_
                refine gl_op t_move ?_
                refine gl_guard (hop := fun _ => (t_call (shovelSent_fn))) (h := ?_)
                refine gl_op t_pick_and ?_
                refine gl_op t_assign ?_
                refine gl_nil ?_
                refine g_ret Try.func3 () (res1e Try.results3 rfl ?_) (.inr rfl)
                show Is (.bool _) = Is (.bool true)
                congr 2
                have e9 : (3 * ((ds.length - 1 - b : Nat) : Int)) = 3 * ((ds.length : Int) - 1 - (b : Int)) := by omega
                simp [e9]
end Go.Proofs.Ytkoinfegbkigcaa
