/- A part of the proof: contracts of functions of the program, each for the inputs that its premises name. -/
import Derived.Test.YtkoinfegbkigcaaRtTJ
import Derived.Test.YtkoinfegbkigcaaRtR
import Derived.Test.YtkoinfegbkigcaaRtU
namespace Go.Proofs.Ytkoinfegbkigcaa
open Go.Rt
set_option maxHeartbeats 400000

/-- An element of an array, by the array's address. -/
theorem t_indexArrP {P : Program} {F : List (Nat × Ty)} {M : List Res} {o : Oper} {Ts Us : List Ty} {x i : Operand} {t e : TypeId} {k : IntKind} {n : Int} {len sz : Nat} (ho : o.op = .indexAddr t x i := by rfl) (hx : OT F x (PtrTo Ts) := by exact ot_tmp rfl) (hi : OT F i (Is (.int k n)) := by first | exact ot_tmp rfl | exact ot_const)
    (u : UndT P t (.array len e) := by infer_instance) (s : SizeT P e sz := by infer_instance) (h0 : 0 ≤ n := by omega) (hn : n < len := by omega) (hU : Ts.drop (n.toNat * sz) = Us := by rfl) : OpT P F M o (PtrTo Us) :=
  opT_val fun tm V w hf _ _ => by
    obtain ⟨a, h1, h2⟩ := hx.h tm V (hf _ (by simp [ho, Op.operands]))
    have h3 := ot_is hi hf (by simp [ho, Op.operands])
    refine ⟨.pointer (some (a.add (n.toNat * sz))), ?_, _, rfl, hU ▸ h2.drop _⟩
    simp [execOp, ho, h1, h3, Instr.indexAt, asIntOf, run_underlying u.h, Instr.sureAddr, s.h w, h0, hn]

theorem t_indexArrM {P : Program} {F : List (Nat × Ty)} {M : List Res} {o : Oper} {x i : Operand} {t e : TypeId} {k : IntKind} {n : Int} {len sz b off : Nat} (ho : o.op = .indexAddr t x i := by rfl) (hx : OT F x (Is (.pointer (some ⟨b, off, none⟩))) := by exact ot_tmp rfl) (hi : OT F i (Is (.int k n)) := by first | exact ot_tmp rfl | exact ot_const)
    (u : UndT P t (.array len e) := by infer_instance) (s : SizeT P e sz := by infer_instance) (h0 : 0 ≤ n := by omega) (hn : n < len := by omega) {m : Nat} (hm : off + n.toNat * sz = m := by rfl) : OpT P F M o (Is (.pointer (some ⟨b, m, none⟩))) :=
  opT_val fun tm V w hf _ _ => by
    subst hm
    have h1 := ot_is hx hf (by simp [ho, Op.operands])
    have h3 := ot_is hi hf (by simp [ho, Op.operands])
    refine ⟨_, ?_, rfl⟩
    simp [execOp, ho, h1, h3, Instr.indexAt, asIntOf, run_underlying u.h, Instr.sureAddr, s.h w, h0, hn, add_mk]

section
variable {P : Program} {C : Ctx} {b : Base} {n : Nat} {ds : List Deferred} {k : List Item} {F : List (Nat × Ty)} {M : List Res} {R : Value → World → Prop}
theorem g_loop1 {c : Code} (h : G P C b n ds (.code c :: .inLoop c :: k) F M R) : G P C b n ds (.code (.loop c) :: k) F M R := ⟨fun t w V h1 h2 h3 h4 h5 => .head (fun _ => m_loop) (h.h t w V h1 h2 h3 h4 h5)⟩
theorem g_inLoop {c : Code} (h : G P C b n ds (.code c :: .inLoop c :: k) F M R) : G P C b n ds (.inLoop c :: k) F M R := ⟨fun t w V h1 h2 h3 h4 h5 => .head (fun _ => m_inLoop) (h.h t w V h1 h2 h3 h4 h5)⟩
end

/-- A number's bytes give the number. -/
theorem num_be4 (n : Int) (h : 0 ≤ n ∧ n < 4294967296) : num (be4 n) = n := by
  simp only [num, be4, List.foldl_cons, List.foldl_nil, by8_nat]; omega
theorem num_two (n : Int) (h : 0 ≤ n ∧ n ≤ 65535) : num [by8 (n / 256), by8 n] = n := by
  simp only [num, List.foldl_cons, List.foldl_nil, by8_nat]; omega

/-- A sample whose bits are sent as they are. -/
structure Plain (x : F32) : Prop where
  good : Good x
  bits : bitsOf x = x.bits
  nz : x.bits ≠ 2147483648

theorem smp_plain {n : Int} (h : SmpR n) : Plain (smp n) where
  good := smp_good h
  bits := by
    unfold bitsOf
    rw [(smp_good h).f.ez]
    have h1 := smp_val h
    unfold F32.val at h1
    rw [h1]
    by_cases h0 : n = 0
    · subst h0
      have := (smp_zero (n := 0) h).2 rfl
      simp [smp, this]
    · simp [h0]
  nz := by
    have := smp_chk h; simp only [smpChk, Bool.and_eq_true, beq_iff_eq] at this
    have h2 := this.2
    intro e
    have e' : smpB n = 2147483648 := e
    rw [e'] at h2
    simp at h2

structure PktP (p : Packet) : Prop where
  ok : PktOk p
  a : Plain p.a
  b : Plain p.b
  c : Plain p.c

theorem frame_eq (p : Packet) : frame p = [90, by8 p.src, by8 (p.ctr / 256), by8 p.ctr] ++ be4 (bitsOf p.a) ++ be4 (bitsOf p.b) ++ be4 (bitsOf p.c) ++ be4 (csum (bodyUp p 3)) := by simp [frame, bodyUp, body0]
theorem bodyUp_eq (p : Packet) : bodyUp p 3 = [90, by8 p.src, by8 (p.ctr / 256), by8 p.ctr] ++ be4 (bitsOf p.a) ++ be4 (bitsOf p.b) ++ be4 (bitsOf p.c) := by simp [bodyUp, body0]
theorem bodyUp_len (p : Packet) : (bodyUp p 3).length = 16 := by simp [bodyUp_eq, be4]
theorem frame_split (p : Packet) : frame p = bodyUp p 3 ++ be4 (csum (bodyUp p 3)) := rfl
theorem frame_take (p : Packet) : (frame p).take 16 = bodyUp p 3 := by rw [frame_split, ← bodyUp_len p]; exact List.take_left
theorem frame_drop (p : Packet) : (frame p).drop 16 = be4 (csum (bodyUp p 3)) := by rw [frame_split, ← bodyUp_len p]; exact List.drop_left

/-- A part of an array, told. -/
theorem t_arr_part {P : Program} {F : List (Nat × Ty)} {M : List Res} {o : Oper} {α : Type} [Enc α] {t e : TypeId} {x : Operand} {n : Nat} (xs ys : List α) (lo hi : Option Operand) (l h : Nat) (hr : (xs.take h).drop l = ys) (ho : o.op = .slice t x lo hi none := by rfl) (hx : OT F x (PtrTo (xs.flatMap Enc.ty)) := by exact ot_tmp rfl)
    (u : UndT P t (.array n e) := by infer_instance) (sz : SizeT P e (Enc.sz α) := by infer_instance) (hn : xs.length = n) (h63 : n ≤ 9223372036854775807 := by decide) (hl : (lo = none ∧ l = 0) ∨ ∃ y, lo = some y ∧ OT F y (Is (.int .i64 l))) (hh : (hi = none ∧ h = n) ∨ ∃ y, hi = some y ∧ OT F y (Is (.int .i64 h)))
    (h1 : l ≤ h := by omega) (h2 : h ≤ n := by omega) : OpT P F M o (Sl ys) := hr ▸ t_arr_slice xs lo hi l h ho hx u sz hn h63 hl hh h1 h2

theorem decode_fn (p : Packet) (hp : PktP p) : FnS Try.prog 130 [Agg ((frame p).flatMap Enc.ty)] (Tup [Va p, Va (0 : Int)]) := by
  have hs := hp.ok.s0
  have hc := hp.ok.c0
  have hla := hp.ok.a.f.lt
  have hlb := hp.ok.b.f.lt
  have hlc := hp.ok.c.f.lt
  have hcs := csum_bound (bodyUp p 3)
  have hna : num (be4 (bitsOf p.a)) = p.a.bits := by rw [hp.a.bits]; exact num_be4 _ (by omega)
  have hnb : num (be4 (bitsOf p.b)) = p.b.bits := by rw [hp.b.bits]; exact num_be4 _ (by omega)
  have hnc : num (be4 (bitsOf p.c)) = p.c.bits := by rw [hp.c.bits]; exact num_be4 _ (by omega)
  have u32 : ∀ b : Nat, b < 4294967296 → IntKind.u32.wrap (b : Int) = b := fun b hb => by simp [IntKind.wrap, IntKind.bits, IntKind.signed]; omega
  have hall : ∀ x ∈ [p.a, p.b, p.c], Good x := by
    intro x hx
    simp only [List.mem_cons, List.not_mem_nil, or_false] at hx
    rcases hx with rfl | rfl | rfl
    · exact hp.ok.a
    · exact hp.ok.b
    · exact hp.ok.c
  have h94 : ∀ x : {x : F32 // Good x}, FnS Try.prog 94 [Va x.1] (Va ((fun _ : F32 => (0 : Int)) x.1)) := fun x => checkSample_fn _ x.2
  refine spec_enter Try.func130 rfl Try.ntmps130 Try.call130 (by simp) fun C hX => ?_
  refine g_seq ?_
  refine gl_region ?_
  refine gl_op (t_box_agg (Ts := (frame p).flatMap Enc.ty)) ?_
  refine gl_opM m_alloc (fun bl => ?_)
  refine gl_op t_assign ?_
  refine gl_nil ?_
  refine g_seq ?_
  refine g_seq ?_
  revert bl; intro b2
  refine gd_region 12 mixed (by kernel_rfl) ?_
  simp only [List.take_succ_cons, List.take_zero, List.drop_succ_cons, List.drop_zero]
  refine dl_op (t_indexArrP (Us := (frame p).flatMap Enc.ty)) ?_
  refine dl_op t_load_one ?_
  refine dl_op t_neq ?_
  refine dl_op (t_call (when_fn _ _)) ?_
  refine dl_op (t_arr_part (frame p) (be4 (csum (bodyUp p 3))) (some (.const (.int .i64 16))) none 16 20 (frame_drop p) (hn := frame_len p) (hl := .inr ⟨_, rfl, ot_const⟩) (hh := .inl ⟨rfl, rfl⟩)) ?_
  refine dl_op (t_toArr (xs := be4 (csum (bodyUp p 3))) (n := 4) (hn := rfl)) ?_
  refine dl_op (t_load_agg (n := 4) (Ts := (be4 (csum (bodyUp p 3))).flatMap Enc.ty) (Us := (be4 (csum (bodyUp p 3))).flatMap Enc.ty)) ?_
  refine dl_op (t_arr_part (frame p) (bodyUp p 3) none (some (.const (.int .i64 16))) 0 16 (frame_take p) (hn := frame_len p) (hl := .inl ⟨rfl, rfl⟩) (hh := .inr ⟨_, rfl, ot_const⟩)) ?_
  refine dl_op (t_call (checksum_fn (bodyUp p 3) (by rw [bodyUp_len]; omega))) ?_
  refine dl_op (t_call (four_nil _)) ?_
  refine dl_op (t_toArr (xs := be4 (csum (bodyUp p 3))) (n := 4) (hn := rfl)) ?_
  refine dl_op (t_load_agg (n := 4) (Ts := (be4 (csum (bodyUp p 3))).flatMap Enc.ty) (Us := (be4 (csum (bodyUp p 3))).flatMap Enc.ty)) ?_
  refine dl_nil ?_
  refine gl_op (t_fourNe (l := be4 (csum (bodyUp p 3))) rfl) ?_
  refine gl_op (t_call (when_fn _ _)) ?_
  refine gl_op (t_buildSlice (α := Int)) ?_
  refine gl_op (t_call (first_fn _)) ?_
  refine gl_op t_assign ?_
  refine gl_nil ?_
  refine g_seq ?_
  refine gl_region ?_
  refine gl_op t_move ?_
  refine gl_op t_neq ?_
  refine gl_nil ?_
  refine g_cond (ot_tmp rfl) (fun h => ?_) (fun _ => ?_)
  · exact absurd h (by decide)
  refine g_skip ?_
  refine g_seq ?_
  refine gd_regionS 7 [6] none [true, true, true, true, true, true, true] mixed (by kernel_rfl) (by kernel_rfl) ?_
  simp only [List.take_succ_cons, List.take_zero, List.drop_succ_cons, List.drop_zero]
  refine dq_op (t_indexArrP (Us := ((frame p).drop 1).flatMap Enc.ty)) ?_
  refine dq_op t_load_one ?_
  refine dq_op (t_conv_ii (k := .i64)) ?_
  refine dq_op (t_arr_part (frame p) [by8 (p.ctr / 256), by8 p.ctr] (some (.const (.int .i64 2))) (some (.const (.int .i64 4))) 2 4 rfl (hn := frame_len p) (hl := .inr ⟨_, rfl, ot_const⟩) (hh := .inr ⟨_, rfl, ot_const⟩)) ?_
  refine dq_op (t_call (number_fn [by8 (p.ctr / 256), by8 p.ctr] (by simp))) ?_
  refine dq_op t_build ?_
  refine dq_skip ?_
  refine dq_nil ?_
  refine sc_new rfl m_alloc rfl (fun b5 => ?_)
  refine sc_nil ?_
  refine gl_opM0 m_store_agg (fun _ => ?_)
  refine gl_nil ?_
  refine g_seq ?_
  refine gl_region ?_
  refine gl_op t_assign ?_
  refine gl_nil ?_
  refine g_seq ?_
  refine g_seq ?_
  refine gl_region ?_
  refine gl_op t_move ?_
  refine gl_nil ?_
  refine g_block ?_
  refine g_loop1 ?_
  refine g_seq ?_
  refine gl_region ?_
  refine gl_op t_lss ?_
  refine gl_nil ?_
  refine g_seq ?_
  refine g_cond (ot_tmp rfl) (fun _ => ?_) (fun h => absurd h (by decide))
  refine g_skip ?_
  refine g_seq ?_
  refine g_block ?_
  refine g_seq ?_
  refine gl_region ?_
  refine gl_op t_move ?_
  refine gl_op t_assign ?_
  refine gl_nil ?_
  refine g_seq ?_
  refine gl_region ?_
  refine gl_op t_move ?_
  refine gl_op t_mul ?_
  refine gl_op t_add ?_
  refine gl_op t_move ?_
  refine gl_op t_mul ?_
  refine gl_op t_add ?_
  refine gl_op (t_arr_part (frame p) (be4 (bitsOf p.a)) (some (.tmp 41)) (some (.tmp 44)) 4 8 rfl (hn := frame_len p) (hl := .inr ⟨_, rfl, ot_eq rfl rfl⟩) (hh := .inr ⟨_, rfl, ot_eq rfl rfl⟩)) ?_
  refine gl_op (t_call (number_fn (be4 (bitsOf p.a)) (by simp [be4]))) ?_
  refine gl_op t_assign ?_
  refine gl_nil ?_
  refine g_seq ?_
  refine gl_region ?_
  refine gl_op t_move ?_
  refine gl_op t_move ?_
  refine gl_guard (hop := fun _ => t_move) (h := ?_)
  refine gl_guard (hop := fun _ => t_eql) (h := ?_)
  refine gl_op t_pick_or ?_
  refine gl_op t_assign ?_
  refine gl_nil ?_
  refine gl_region ?_
  refine gl_op t_move ?_
  refine gl_op t_move ?_
  refine gl_op (t_conv_ii (k := .u32)) ?_
  refine gl_op (t_frombits (b := p.a.bits) (hx := ot_eq rfl (by rw [hna, u32 _ hla]))) ?_
  refine gl_op t_fieldM ?_
  refine gl_op (t_indexArrM (m := 2)) ?_
  refine gl_opM0 m_store_one (fun _ => ?_)
  refine gl_nil ?_
  refine g_inBlock ?_
  refine gl_region ?_
  refine gl_op t_add ?_
  refine gl_op t_move ?_
  refine gl_nil ?_
  refine g_inLoop ?_
  refine g_seq ?_
  refine gl_region ?_
  refine gl_op t_lss ?_
  refine gl_nil ?_
  refine g_seq ?_
  refine g_cond (ot_tmp rfl) (fun _ => ?_) (fun h => absurd h (by decide))
  refine g_skip ?_
  refine g_seq ?_
  refine g_block ?_
  refine g_seq ?_
  refine gl_region ?_
  refine gl_op t_move ?_
  refine gl_op t_assign ?_
  refine gl_nil ?_
  refine g_seq ?_
  refine gl_region ?_
  refine gl_op t_move ?_
  refine gl_op t_mul ?_
  refine gl_op t_add ?_
  refine gl_op t_move ?_
  refine gl_op t_mul ?_
  refine gl_op t_add ?_
  refine gl_op (t_arr_part (frame p) (be4 (bitsOf p.b)) (some (.tmp 41)) (some (.tmp 44)) 8 12 rfl (hn := frame_len p) (hl := .inr ⟨_, rfl, ot_eq rfl rfl⟩) (hh := .inr ⟨_, rfl, ot_eq rfl rfl⟩)) ?_
  refine gl_op (t_call (number_fn (be4 (bitsOf p.b)) (by simp [be4]))) ?_
  refine gl_op t_assign ?_
  refine gl_nil ?_
  refine g_seq ?_
  refine gl_region ?_
  refine gl_op t_move ?_
  refine gl_op t_move ?_
  refine gl_guard (hop := fun _ => t_move) (h := ?_)
  refine gl_guard (hop := fun _ => t_eql) (h := ?_)
  refine gl_op t_pick_or ?_
  refine gl_op t_assign ?_
  refine gl_nil ?_
  refine gl_region ?_
  refine gl_op t_move ?_
  refine gl_op t_move ?_
  refine gl_op (t_conv_ii (k := .u32)) ?_
  refine gl_op (t_frombits (b := p.b.bits) (hx := ot_eq rfl (by rw [hnb, u32 _ hlb]))) ?_
  refine gl_op t_fieldM ?_
  refine gl_op (t_indexArrM (m := 3)) ?_
  refine gl_opM0 m_store_one (fun _ => ?_)
  refine gl_nil ?_
  refine g_inBlock ?_
  refine gl_region ?_
  refine gl_op t_add ?_
  refine gl_op t_move ?_
  refine gl_nil ?_
  refine g_inLoop ?_
  refine g_seq ?_
  refine gl_region ?_
  refine gl_op t_lss ?_
  refine gl_nil ?_
  refine g_seq ?_
  refine g_cond (ot_tmp rfl) (fun _ => ?_) (fun h => absurd h (by decide))
  refine g_skip ?_
  refine g_seq ?_
  refine g_block ?_
  refine g_seq ?_
  refine gl_region ?_
  refine gl_op t_move ?_
  refine gl_op t_assign ?_
  refine gl_nil ?_
  refine g_seq ?_
  refine gl_region ?_
  refine gl_op t_move ?_
  refine gl_op t_mul ?_
  refine gl_op t_add ?_
  refine gl_op t_move ?_
  refine gl_op t_mul ?_
  refine gl_op t_add ?_
  refine gl_op (t_arr_part (frame p) (be4 (bitsOf p.c)) (some (.tmp 41)) (some (.tmp 44)) 12 16 rfl (hn := frame_len p) (hl := .inr ⟨_, rfl, ot_eq rfl rfl⟩) (hh := .inr ⟨_, rfl, ot_eq rfl rfl⟩)) ?_
  refine gl_op (t_call (number_fn (be4 (bitsOf p.c)) (by simp [be4]))) ?_
  refine gl_op t_assign ?_
  refine gl_nil ?_
  refine g_seq ?_
  refine gl_region ?_
  refine gl_op t_move ?_
  refine gl_op t_move ?_
  refine gl_guard (hop := fun _ => t_move) (h := ?_)
  refine gl_guard (hop := fun _ => t_eql) (h := ?_)
  refine gl_op t_pick_or ?_
  refine gl_op t_assign ?_
  refine gl_nil ?_
  refine gl_region ?_
  refine gl_op t_move ?_
  refine gl_op t_move ?_
  refine gl_op (t_conv_ii (k := .u32)) ?_
  refine gl_op (t_frombits (b := p.c.bits) (hx := ot_eq rfl (by rw [hnc, u32 _ hlc]))) ?_
  refine gl_op t_fieldM ?_
  refine gl_op (t_indexArrM (m := 4)) ?_
  refine gl_opM0 m_store_one (fun _ => ?_)
  refine gl_nil ?_
  refine g_inBlock ?_
  refine gl_region ?_
  refine gl_op t_add ?_
  refine gl_op t_move ?_
  refine gl_nil ?_
  refine g_inLoop ?_
  rw [u8_i64, by8_nat, Int.emod_eq_of_lt (by omega) (by omega), num_two p.ctr (by omega)]
  refine g_ent (e_cells (s := 5) rfl (by simp [hX, ids])) ?_
  refine g_seq ?_
  refine gl_region ?_
  refine gl_op t_lss ?_
  refine gl_nil ?_
  refine g_seq ?_
  refine g_cond (ot_tmp rfl) (fun h => absurd h (by decide)) (fun _ => ?_)
  refine g_exit rfl ?_
  refine g_seq ?_
  refine g_seq ?_
  refine gl_region ?_
  refine gl_op t_field ?_
  refine gl_op (t_slice_arr [p.a, p.b, p.c]) ?_
  refine gl_op (t_call (mapped126_fn [p.a, p.b, p.c] Good (fun _ => 0) hall (by simp)) (hx := by exact ⟨ot_tmp rfl, ot_fn h94, trivial⟩)) ?_
  refine gl_op (t_call (first_fn _)) ?_
  refine gl_op t_move ?_
  refine gl_op (t_call (when_fn _ _)) ?_
  refine gl_op (t_buildSlice (α := Int)) ?_
  refine gl_op (t_call (first_fn _)) ?_
  refine gl_op t_assign ?_
  refine gl_nil ?_
  refine g_seq ?_
  refine gl_region ?_
  refine gl_op t_move ?_
  refine gl_op t_neq ?_
  refine gl_nil ?_
  refine g_cond (ot_tmp rfl) (fun h => ?_) (fun _ => ?_)
  · exfalso
    rw [hna, hnb, hnc] at h
    have n1 := hp.a.nz
    have n2 := hp.b.nz
    have n3 := hp.c.nz
    simp [firstE, show ¬ ((p.a.bits : Int) = 2147483648) by omega, show ¬ ((p.b.bits : Int) = 2147483648) by omega, show ¬ ((p.c.bits : Int) = 2147483648) by omega] at h
  refine g_skip ?_
  refine g_seq ?_
  refine gl_region ?_
  refine gl_op (t_load_agg (Ts := Enc.ty p) (Us := Enc.ty p)) ?_
  refine gl_opM0 m_store_agg (fun _ => ?_)
  refine gl_op t_assign ?_
  refine gl_nil ?_
  refine g_ent (e_cells (s := 2) rfl (by simp [hX, ids])) ?_
  exact g_ret Try.func130 () (res_two Try.results130 (rv_va (x := p) rfl) (rv_tmp rfl)) (.inl rfl)
end Go.Proofs.Ytkoinfegbkigcaa
