/- A part of the proof: contracts of functions of the program, each for the inputs that its premises name. -/
import Derived.Test.YtkoinfegbkigcaaRtTQ
namespace Go.Proofs.Ytkoinfegbkigcaa
open Go.Rt
set_option maxHeartbeats 400000

/-- A block's cells may be read otherwise. -/
theorem e_sub {C : Ctx} {F : List (Nat × Ty)} {M M' : List Res} {b : Nat} {E : TypeId} {Ts Us : List Ty} (hu : Upd M (Cells b E Ts) M' (Cells b E Us)) (hl : Us.length = Ts.length) (h : ∀ (i : Nat) (U : Ty), Us[i]? = some U → ∃ T, Ts[i]? = some T ∧ ∀ v V, T.p v V → U.p v V) : Ent C F M F M' := by
  intro t w V hTF hev hm hI
  obtain ⟨o, h1, h2, cs, h3, h4, h5⟩ := hm.all _ hu.mem
  cases h3
  obtain ⟨g1, g2⟩ := hm.upd hu (b := b) (w' := w) rfl rfl (fun _ _ => rfl) h1 ⟨cs, rfl, by rw [h4, hl], fun i U e => by
    obtain ⟨T, e1, e2⟩ := h i U e
    obtain ⟨c, e3, e4⟩ := h5 i T e1
    exact ⟨c, e3, e2 _ _ e4⟩⟩
  exact ⟨V, hTF, hev, g1, fun b' hb' => hI b' (g2 ▸ hb')⟩

theorem nil_sl {α : Type} [Enc α] : ∀ v V, (Is (.slice none 0 0)).p v V → (Sl ([] : List α)).p v V := fun v _ h => by
  have h' : v = .slice none 0 0 := h
  exact ⟨none, 0, 0, h', rfl, Nat.le_refl _, by omega, fun h => absurd rfl h⟩

theorem sub_nil2 {nm : ByteArray} {f : Int} {xs : List F32} : ∀ (i : Nat) (U : Ty), (Enc.ty (Run.mk nm f xs []))[i]? = some U → ∃ T, [Is (.string nm), Is (.int .i64 f), Sl xs, Is (.slice none 0 0)][i]? = some T ∧ ∀ v V, T.p v V → U.p v V := fun i U e => by
  match i, e with
  | 0, e => cases e; exact ⟨_, rfl, fun _ _ h => h⟩
  | 1, e => cases e; exact ⟨_, rfl, fun _ _ h => h⟩
  | 2, e => cases e; exact ⟨_, rfl, fun _ _ h => h⟩
  | 3, e => cases e; exact ⟨_, rfl, nil_sl⟩
theorem sub_nil3 {nm : ByteArray} {f : Int} : ∀ (i : Nat) (U : Ty), (Enc.ty (Run.mk nm f [] []))[i]? = some U → ∃ T, [Is (.string nm), Is (.int .i64 f), Is (.slice none 0 0), Is (.slice none 0 0)][i]? = some T ∧ ∀ v V, T.p v V → U.p v V := fun i U e => by
  match i, e with
  | 0, e => cases e; exact ⟨_, rfl, fun _ _ h => h⟩
  | 1, e => cases e; exact ⟨_, rfl, fun _ _ h => h⟩
  | 2, e => cases e; exact ⟨_, rfl, nil_sl⟩
  | 3, e => cases e; exact ⟨_, rfl, nil_sl⟩

/-- The run of the first k packets. -/
def outR (qs : List Pk) (k : Nat) : Run := W rN (3 * ((jrun qs k).1 : Int)) (jrun qs k).2
/-- The run of one packet. -/
def nextR (p : Packet) : Run := ⟨rN, 3 * p.ctr, [p.a, p.b, p.c], []⟩

theorem nextR_W (s : Int) (q : Pk) : nextR (pkt s q) = W rN (3 * (q.c : Int)) (rd3 q.d) := by rw [W_rd3]; rfl

theorem outR_facts {g : Nat → Option (Int × Int × Int)} {qs : List Pk} (h : Sent g qs) (hc : ∀ q ∈ qs, q.c ≤ 20) {k : Nat} (hk : k ≤ qs.length) : Nrm (jrun qs k).2 ∧ (jrun qs k).2.length ≤ 63 ∧ (jrun qs k).1 ≤ 20 := by
  cases k with
  | zero => exact ⟨by intro x hx; simp [jrun] at hx, by simp [jrun], by simp [jrun]⟩
  | succ k =>
    obtain ⟨h1, h2, h3, h4, _⟩ := jrun_inv h k (by omega)
    have c1 := hc _ (getD_mem (show k < qs.length by omega))
    exact ⟨h4, by omega, by omega⟩

theorem outR_ok {g : Nat → Option (Int × Int × Int)} {qs : List Pk} (h : Sent g qs) (hc : ∀ q ∈ qs, q.c ≤ 20) {k : Nat} (hk : k ≤ qs.length) : RunOk (outR qs k) := by
  obtain ⟨h1, h2, h3⟩ := outR_facts h hc hk
  exact runOk_W rN_ok (by omega) (by omega) (by omega) h1

theorem outR_one (qs : List Pk) (s : Int) : outR qs 1 = nextR (pkt s (qs.getD 0 default)) := by
  rw [nextR_W]; rfl

theorem outR_join {g : Nat → Option (Int × Int × Int)} {qs : List Pk} (h : Sent g qs) (hc : ∀ q ∈ qs, q.c ≤ 20) {k : Nat} (h0 : 0 < k) (hk : k < qs.length) (s : Int) :
    FnS Try.prog 53 [Va (outR qs k), Va (nextR (pkt s (qs.getD k default)))] (Tup [Va (outR qs (k + 1)), Va (0 : Int)]) := by
  obtain ⟨j, rfl⟩ : ∃ j, k = j + 1 := ⟨k - 1, by omega⟩
  obtain ⟨a1, a2, a3, a4, _⟩ := jrun_inv h j (by omega)
  have c0 := hc _ (getD_mem (show 0 < qs.length by omega))
  have c1 := hc _ (getD_mem (show j < qs.length by omega))
  have c2 := hc _ (getD_mem hk)
  have c3 := h.lt (i := j) (j := j + 1) (by omega) hk
  have hn := nrm_rd3 (h.ok _ (getD_mem hk))
  have hlen : (outR qs (j + 1)).xs.length = (jrun qs (j + 1)).2.length := W_len _ _ _
  have hok : RunOk (nextR (pkt s (qs.getD (j + 1) default))) := by
    rw [nextR_W]
    exact runOk_W rN_ok (by omega) (by simp [rd3]) (by show 3 * ((qs.getD (j + 1) default).c : Int) + ((3 : Nat) : Int) ≤ _; omega) hn
  have hnl : (nextR (pkt s (qs.getD (j + 1) default))).xs.length = 3 := rfl
  have hf : (outR qs (j + 1)).first = 3 * ((jrun qs (j + 1)).1 : Int) := rfl
  have hnf : (nextR (pkt s (qs.getD (j + 1) default))).first = 3 * ((qs.getD (j + 1) default).c : Int) := rfl
  have hj := joined_fn (outR qs (j + 1)) (nextR (pkt s (qs.getD (j + 1) default))) (outR_ok h hc (by omega)) hok (by omega) (by omega) (by simp [nextR])
  have e : jr (outR qs (j + 1)) (nextR (pkt s (qs.getD (j + 1) default))) = (jrun qs (j + 1 + 1)).2 := by
    unfold jr
    rw [hf, hnf, hlen, nextR_W, rds_W hn]
    unfold outR
    rw [rds_W a4]
    have ej : jrun qs (j + 1 + 1) = ((jrun qs (j + 1)).1, (jrun qs (j + 1)).2 ++ List.replicate (3 * (qs.getD (j + 1) default).c - (3 * (jrun qs (j + 1)).1 + (jrun qs (j + 1)).2.length)) ⟨0, false⟩ ++ rd3 (qs.getD (j + 1) default).d) := by
      rw [jrun, if_neg (by omega)]
    rw [ej]
    simp only
    congr 3
    omega
  rw [e] at hj
  exact hj

theorem shovelJoined_fn (s : Int) (hs : 0 ≤ s ∧ s ≤ 255) (qs : List Pk) (g : Nat → Option (Int × Int × Int)) (h : Sent g qs) (hc : ∀ q ∈ qs, q.c ≤ 20) (hl : qs.length ≤ 12) :
    FnS Try.prog 9 [Sl (strm (qs.map (pkt s)))] (Tup [Va (outR qs qs.length), Va true]) := by
  have hpl : (qs.map (pkt s)).length = qs.length := by simp
  have hpp : ∀ p ∈ qs.map (pkt s), PktP p := by
    intro p hp
    obtain ⟨q, hq, rfl⟩ := List.mem_map.1 hp
    exact pkt_plain hs (by have := hc q hq; omega) (h.ok q hq)
  have hsl := strm_len (qs.map (pkt s))
  refine spec_enter Try.func9 rfl Try.ntmps9 Try.call9 (by simp) fun C hX => ?_
  refine g_seq ?_
  refine gl_region ?_
  refine gl_opM m_alloc (fun bl => ?_)
  refine gl_op t_assign ?_
  refine gl_nil ?_
  refine g_seq ?_
  refine gl_region ?_
  refine gl_op (t_buildSlice (α := UInt8) (xs := [])) ?_
  refine gl_op t_move ?_
  refine gl_op (t_append_full (α := UInt8)) ?_
  refine gl_op (t_call (received_fn (qs.map (pkt s)) hpp (by omega))) ?_
  refine gl_op t_move ?_
  refine gl_op t_extract ?_
  refine gl_op t_extract ?_
  refine gl_op t_extract ?_
  refine gl_op t_assign ?_
  refine gl_op t_assign ?_
  refine gl_op t_assign ?_
  refine gl_nil ?_
  refine g_seq ?_
  refine g_seq ?_
  refine gl_region ?_
  refine gl_op t_move ?_
  refine gl_op t_neq ?_
  refine gl_op t_move ?_
  refine gl_guard (hop := fun _ => t_move) (h := ?_)
  refine gl_guard (hop := fun _ => t_len) (h := ?_)
  refine gl_guard (hop := fun _ => t_gtr) (h := ?_)
  refine gl_op t_pick_or ?_
  refine gl_nil ?_
  refine g_cond (ot_tmp rfl) (fun h => ?_) (fun _ => ?_)
  · exfalso
    simp only [Bool.or_eq_true, decide_eq_true_eq] at h
    omega
  refine g_skip ?_
  refine g_seq ?_
  refine gl_region ?_
  refine gl_op t_build ?_
  refine gl_opM m_alloc (fun bl => ?_)
  refine gl_opM0 m_store_agg (fun _ => ?_)
  refine gl_nil ?_
  refine g_seq ?_
  refine g_seq ?_
  refine gl_region ?_
  refine gl_op t_move ?_
  refine gl_op t_len ?_
  refine gl_op t_move ?_
  refine gl_nil ?_
  refine g_block ?_
  rename_i b2 u2 u3
  revert bl; intro b7
  refine g_loop (fun k : Nat => k ≤ qs.length) (fun k => [(32, Is (.int .i64 k)), (31, Is (.int .i64 (qs.map (pkt s)).length)), (30, Sl (qs.map (pkt s))), (7, Is (.pointer (some ⟨b7, 0, none⟩))), (2, Is (.pointer (some ⟨b2, 0, none⟩))), (3, Is (.bool false))])
    (fun k => [Cells b7 28 (Enc.ty (outR qs k)), Cells b2 40 [Is (.string { data := #[] }), Is (.int .i64 0), Is (.slice none 0 0), Is (.slice none 0 0)]]) (fun k => qs.length - k) (fun H => ?_) (fun k hk ih => ?_)
  · refine g_ent (e_sub (b := b7) (Us := Enc.ty (outR qs 0)) .head rfl sub_nil3) ?_
    refine g_subF ?_ (H 0 (by simp))
    repeat (first | exact tf_nil | refine tf_cons (by first | exact ot_tmp rfl | exact ot_eq rfl (by first | (simp; done) | (congr 2; omega)) | exact ot_sub (ot_tmp rfl) sl_slf) ?_)
  · refine g_seq ?_
    refine gl_region ?_
    refine gl_op t_lss ?_
    refine gl_nil ?_
    refine g_seq ?_
    refine g_cond (ot_tmp rfl) (fun hi => ?_) (fun hi => ?_)
    · simp only [decide_eq_true_eq] at hi
      have hk' : k < qs.length := by omega
      have hcc := hc _ (getD_mem hk')
      have e1 : ((qs.map (pkt s)).getD k default) = pkt s (qs.getD k default) := map_getD _ hk'
      obtain ⟨p, hp⟩ : ∃ p, p = pkt s (qs.getD k default) := ⟨_, rfl⟩
      have e2 : p.ctr = ((qs.getD k default).c : Int) := by rw [hp]; rfl
      rw [← hp] at e1
      refine g_skip ?_
      refine g_seq ?_
      refine g_block ?_
      refine g_seq ?_
      refine gl_region ?_
      refine gl_op t_move ?_
      refine gl_op t_index ?_
      refine gl_op t_load ?_
      refine gl_opM m_alloc (fun bl => ?_)
      refine gl_op t_assign ?_
      refine gl_opM0 m_store_agg (fun _ => ?_)
      refine gl_nil ?_
      refine g_seq ?_
      refine g_seq ?_
      refine gl_region ?_
      refine gl_op t_fieldM ?_
      refine gl_op t_loadM_one ?_
      refine gl_op t_lss ?_
      refine gl_op t_move ?_
      refine gl_guard (hop := fun _ => t_fieldM) (h := ?_)
      refine gl_guard (hop := fun _ => t_loadM_one) (h := ?_)
      refine gl_guard (hop := fun _ => t_gtr) (h := ?_)
      refine gl_op t_pick_or ?_
      refine gl_nil ?_
      rw [e1]
      refine g_cond (ot_tmp rfl) (fun h => ?_) (fun _ => ?_)
      · exfalso
        simp only [Bool.or_eq_true, decide_eq_true_eq] at h
        omega
      refine g_ent (e_cells (s := 9) rfl (by simp [hX, ids])) ?_
      refine g_skip ?_
      refine g_seq ?_
      refine gd_regionS 9 [8] none [true, true, true, true, true, true, true, true, true] mixed (by kernel_rfl) (by kernel_rfl) ?_
      simp only [List.take_succ_cons, List.take_zero, List.drop_succ_cons, List.drop_zero]
      refine dq_op t_field ?_
      refine dq_op t_load_one ?_
      refine dq_op t_mul ?_
      refine dq_op (t_buildSlice (α := F32) (xs := [])) ?_
      refine dq_op t_field ?_
      refine dq_op (t_slice_arr [p.a, p.b, p.c]) ?_
      refine dq_op (t_append_full (α := F32) (xs := []) (ys := [p.a, p.b, p.c]) (hb := by simp) (h63 := by simp)) ?_
      refine dq_op t_build ?_
      refine dq_skip ?_
      refine dq_nil ?_
      refine sc_new rfl m_alloc rfl (fun b10 => ?_)
      refine sc_nil ?_
      refine gl_opM0 m_store_agg (fun _ => ?_)
      refine gl_nil ?_
      refine g_seq ?_
      refine g_seq ?_
      refine gl_region ?_
      refine gl_op t_move ?_
      refine gl_op t_eql ?_
      refine gl_nil ?_
      refine g_ent (e_sub (b := b10) (Ts := [Is (.string rN), Is (.int .i64 (3 * p.ctr)), Sl [p.a, p.b, p.c], Is (.slice none 0 0)]) (Us := Enc.ty (nextR p)) .head rfl sub_nil2) ?_
      refine g_cond (ot_tmp rfl) (fun h0 => ?_) (fun h0 => ?_)
      · simp only [decide_eq_true_eq] at h0
        have hk0 : k = 0 := by omega
        subst hk0
        refine g_seq ?_
        refine gl_region ?_
        refine gl_op t_loadM_agg ?_
        refine gl_opM0 m_store_agg (fun _ => ?_)
        refine gl_nil ?_
        refine g_exit rfl ?_
        refine gl_region ?_
        refine gl_op t_add ?_
        refine gl_op t_move ?_
        refine gl_nil ?_
        refine g_ent (e_drop (r := Cells b10 28 _)) ?_
        refine g_subF ?_ (g_eqM ?_ (ih 1 (by omega) (by omega)))
        · repeat (first | exact tf_nil | refine tf_cons (by first | exact ot_tmp rfl | exact ot_eq rfl (by first | (simp; done) | (congr 2; omega)) | exact ot_sub (ot_tmp rfl) sl_slf) ?_)
        · rw [outR_one qs s, ← hp]; rfl
      · simp only [decide_eq_false_iff_not] at h0
        have hjoin := outR_join h hc (k := k) (by omega) hk' s
        rw [← hp] at hjoin
        have hok := outR_ok h hc hk
        have hok1 := outR_ok h hc (k := k + 1) hk'
        have hol := hok.len
        have hoh := hok.hlen
        refine g_skip ?_
        refine g_seq ?_
        refine gd_regionS 9 [7, 8] (some 8) [true, true, true, true, true, true, false, true, false] mixed (by kernel_rfl) (by kernel_rfl) ?_
        simp only [List.take_succ_cons, List.take_zero, List.drop_succ_cons, List.drop_zero]
        refine dq_op t_loadM_agg ?_
        refine dq_op (t_call (own_fn (outR qs k) (by omega) hoh)) ?_
        refine dq_op t_loadM_agg ?_
        refine dq_op (t_call hjoin) ?_
        refine dq_op t_move ?_
        refine dq_op t_extract ?_
        refine dq_opU (fun _ => t_extract) ?_
        refine dq_skip ?_
        refine dq_skip0 ?_
        refine dq_nil ?_
        refine sc_new rfl m_alloc rfl (fun b11 => ?_)
        refine sc_brk rfl m_store_agg rfl rfl ?_
        refine sc_nil ?_
        refine gl_op t_assign ?_
        refine gl_nil ?_
        refine g_seq ?_
        refine g_seq ?_
        refine gl_region ?_
        refine gl_op t_move ?_
        refine gl_op t_neq ?_
        refine gl_op t_move ?_
        refine gl_guard (hop := fun _ => t_loadM_agg) (h := ?_)
        refine gl_guard (hop := fun _ => (t_call (rcheckRun_fn _ hok1))) (h := ?_)
        refine gl_guard (hop := fun _ => t_neq) (h := ?_)
        refine gl_op t_pick_or ?_
        refine gl_nil ?_
        refine g_cond (ot_tmp rfl) (fun h => absurd h (by decide)) (fun _ => ?_)
        refine g_skip ?_
        refine gl_region ?_
        refine gl_op t_loadM_agg ?_
        refine gl_opM0 m_store_agg (fun _ => ?_)
        refine gl_nil ?_
        refine g_inBlock ?_
        refine gl_region ?_
        refine gl_op t_add ?_
        refine gl_op t_move ?_
        refine gl_nil ?_
        refine g_ent (e_drop (r := Cells b11 28 _)) ?_
        refine g_ent (e_drop (r := Cells b10 28 _)) ?_
        refine g_subF ?_ (ih (k + 1) (by omega) (by omega))
        repeat (first | exact tf_nil | refine tf_cons (by first | exact ot_tmp rfl | exact ot_eq rfl (by first | (simp; done) | (congr 2; omega)) | exact ot_sub (ot_tmp rfl) sl_slf) ?_)
    · simp only [decide_eq_false_iff_not] at hi
      have hk' : k = qs.length := by omega
      subst hk'
      have hok := outR_ok h hc hk
      refine g_exit rfl ?_
      refine g_seq ?_
      refine gd_regionS 5 [4] (some 4) [true, true, true, false, false] mixed (by kernel_rfl) (by kernel_rfl) ?_
      simp only [List.take_succ_cons, List.take_zero, List.drop_succ_cons, List.drop_zero]
      refine dq_op t_loadM_agg ?_
      refine dq_op t_loadM_agg ?_
      refine dq_op (t_call (rcheckRun_fn _ hok)) ?_
      refine dq_opU (fun _ => t_eql) ?_
      refine dq_skip0 ?_
      refine dq_nil ?_
      refine sc_brk rfl m_store_agg rfl rfl ?_
      refine sc_nil ?_
      refine gl_op t_assign ?_
      refine gl_nil ?_
      refine g_ent (e_cells (s := 2) rfl (by simp [hX, ids])) ?_
      exact g_ret Try.func9 () (res_two Try.results9 (rv_va (x := outR qs qs.length) rfl) (rv_tmp rfl)) (.inr rfl)
end Go.Proofs.Ytkoinfegbkigcaa
