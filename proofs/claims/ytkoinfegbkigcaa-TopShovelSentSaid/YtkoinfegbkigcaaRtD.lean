/- The rules of the operations that compute with numbers, bools, strings; reads; new memory. -/
import Derived.Test.YtkoinfegbkigcaaRtC
import Derived.Laws.Closers25
namespace Go.Rt
section
variable {P : Program} {F : List (Nat × Ty)} {M : List Res} {o : Oper} {T : Ty}

theorem ot_is {x : Operand} {v : Value} (h : OT F x (Is v)) {t : Array Value} {V : View} (hf : TFo F o t V) (hm : x ∈ o.op.operands) : ev t x = v := h.h t V (hf x hm)

/-- An operation on two exact values. -/
theorem t_bin {op : BinOp} {ty ty' : TypeId} {x y : Operand} {a b r : Value} (ho : o.op = .binOp op ty x y ty' := by rfl) (hx : OT F x (Is a) := by first | exact ot_tmp rfl | exact ot_const | exact ot_func | exact ot_when rfl (by first | assumption | (simp_all; done)) | exact ot_when_and rfl (by first | assumption | (simp_all; done))) (hy : OT F y (Is b) := by first | exact ot_tmp rfl | exact ot_const | exact ot_func | exact ot_when rfl (by first | assumption | (simp_all; done)) | exact ot_when_and rfl (by first | assumption | (simp_all; done)))
    (hr : ∀ w, (do eqGuard op ty x y a b; binOp op ty a b : Sem Value).run P w = .ok r w) : OpT P F M o (Is r) :=
  opT_val fun t V w hf _ _ => by
    refine ⟨r, ?_, rfl⟩
    have h := hr w
    simp only [execOp, ho, ot_is hx hf (by simp [ho, Op.operands]), ot_is hy hf (by simp [ho, Op.operands])]
    simp only [Sem.run_bind] at h ⊢
    cases hg : (eqGuard op ty x y a b).run P w with
    | ok u w' => rw [hg] at h; simp only [Result.andThen_ok] at h ⊢; rw [h]; rfl
    | halt u w' => rw [hg] at h; cases h

theorem t_add {ty ty' : TypeId} {x y : Operand} {a b : Int} (ho : o.op = .binOp .add ty x y ty' := by rfl) (hx : OT F x (Is (.int .i64 a)) := by first | exact ot_tmp rfl | exact ot_const | exact ot_func | exact ot_when rfl (by first | assumption | (simp_all; done)) | exact ot_when_and rfl (by first | assumption | (simp_all; done))) (hy : OT F y (Is (.int .i64 b)) := by first | exact ot_tmp rfl | exact ot_const | exact ot_func | exact ot_when rfl (by first | assumption | (simp_all; done)) | exact ot_when_and rfl (by first | assumption | (simp_all; done)))
    (hb : -9223372036854775808 ≤ a + b ∧ a + b ≤ 9223372036854775807 := by omega) : OpT P F M o (Is (.int .i64 (a + b))) :=
  t_bin ho hx hy fun w => by simp [eqGuard, binOp, Op.intArith, IntWalk.i64_in _ hb]
theorem t_sub {ty ty' : TypeId} {x y : Operand} {a b : Int} (ho : o.op = .binOp .sub ty x y ty' := by rfl) (hx : OT F x (Is (.int .i64 a)) := by first | exact ot_tmp rfl | exact ot_const | exact ot_func | exact ot_when rfl (by first | assumption | (simp_all; done)) | exact ot_when_and rfl (by first | assumption | (simp_all; done))) (hy : OT F y (Is (.int .i64 b)) := by first | exact ot_tmp rfl | exact ot_const | exact ot_func | exact ot_when rfl (by first | assumption | (simp_all; done)) | exact ot_when_and rfl (by first | assumption | (simp_all; done)))
    (hb : -9223372036854775808 ≤ a - b ∧ a - b ≤ 9223372036854775807 := by omega) : OpT P F M o (Is (.int .i64 (a - b))) :=
  t_bin ho hx hy fun w => by simp [eqGuard, binOp, Op.intArith, IntWalk.i64_in _ hb]
theorem t_mul {ty ty' : TypeId} {x y : Operand} {a b : Int} (ho : o.op = .binOp .mul ty x y ty' := by rfl) (hx : OT F x (Is (.int .i64 a)) := by first | exact ot_tmp rfl | exact ot_const | exact ot_func | exact ot_when rfl (by first | assumption | (simp_all; done)) | exact ot_when_and rfl (by first | assumption | (simp_all; done))) (hy : OT F y (Is (.int .i64 b)) := by first | exact ot_tmp rfl | exact ot_const | exact ot_func | exact ot_when rfl (by first | assumption | (simp_all; done)) | exact ot_when_and rfl (by first | assumption | (simp_all; done)))
    (hb : -9223372036854775808 ≤ a * b ∧ a * b ≤ 9223372036854775807 := by omega) : OpT P F M o (Is (.int .i64 (a * b))) :=
  t_bin ho hx hy fun w => by simp [eqGuard, binOp, Op.intArith, IntWalk.i64_in _ hb]
theorem t_addw {ty ty' : TypeId} {x y : Operand} {k : IntKind} {a b : Int} (ho : o.op = .binOp .add ty x y ty' := by rfl) (hx : OT F x (Is (.int k a)) := by first | exact ot_tmp rfl | exact ot_const | exact ot_func | exact ot_when rfl (by first | assumption | (simp_all; done)) | exact ot_when_and rfl (by first | assumption | (simp_all; done))) (hy : OT F y (Is (.int k b)) := by first | exact ot_tmp rfl | exact ot_const | exact ot_func | exact ot_when rfl (by first | assumption | (simp_all; done)) | exact ot_when_and rfl (by first | assumption | (simp_all; done))) : OpT P F M o (Is (.int k (k.wrap (a + b)))) :=
  t_bin ho hx hy fun w => by simp [eqGuard, binOp, Op.intArith]
theorem t_subw {ty ty' : TypeId} {x y : Operand} {k : IntKind} {a b : Int} (ho : o.op = .binOp .sub ty x y ty' := by rfl) (hx : OT F x (Is (.int k a)) := by first | exact ot_tmp rfl | exact ot_const | exact ot_func | exact ot_when rfl (by first | assumption | (simp_all; done)) | exact ot_when_and rfl (by first | assumption | (simp_all; done))) (hy : OT F y (Is (.int k b)) := by first | exact ot_tmp rfl | exact ot_const | exact ot_func | exact ot_when rfl (by first | assumption | (simp_all; done)) | exact ot_when_and rfl (by first | assumption | (simp_all; done))) : OpT P F M o (Is (.int k (k.wrap (a - b)))) :=
  t_bin ho hx hy fun w => by simp [eqGuard, binOp, Op.intArith]
theorem t_mulw {ty ty' : TypeId} {x y : Operand} {k : IntKind} {a b : Int} (ho : o.op = .binOp .mul ty x y ty' := by rfl) (hx : OT F x (Is (.int k a)) := by first | exact ot_tmp rfl | exact ot_const | exact ot_func | exact ot_when rfl (by first | assumption | (simp_all; done)) | exact ot_when_and rfl (by first | assumption | (simp_all; done))) (hy : OT F y (Is (.int k b)) := by first | exact ot_tmp rfl | exact ot_const | exact ot_func | exact ot_when rfl (by first | assumption | (simp_all; done)) | exact ot_when_and rfl (by first | assumption | (simp_all; done))) : OpT P F M o (Is (.int k (k.wrap (a * b)))) :=
  t_bin ho hx hy fun w => by simp [eqGuard, binOp, Op.intArith]
theorem t_quo {ty ty' : TypeId} {x y : Operand} {a b : Int} (ho : o.op = .binOp .quo ty x y ty' := by rfl) (hx : OT F x (Is (.int .i64 a)) := by first | exact ot_tmp rfl | exact ot_const | exact ot_func | exact ot_when rfl (by first | assumption | (simp_all; done)) | exact ot_when_and rfl (by first | assumption | (simp_all; done))) (hy : OT F y (Is (.int .i64 b)) := by first | exact ot_tmp rfl | exact ot_const | exact ot_func | exact ot_when rfl (by first | assumption | (simp_all; done)) | exact ot_when_and rfl (by first | assumption | (simp_all; done)))
    (h0 : 0 < b := by omega) (hb : -9223372036854775808 ≤ a ∧ a ≤ 9223372036854775807 := by omega) : OpT P F M o (Is (.int .i64 (a.tdiv b))) :=
  t_bin ho hx hy fun w => by
    have hne : ¬ b = 0 := by omega
    simp [eqGuard, binOp, Op.intDiv, hne, wrap_i64_tdiv a b hb.1 hb.2 (by omega)]
theorem t_rem {ty ty' : TypeId} {x y : Operand} {k : IntKind} {a b : Int} (ho : o.op = .binOp .rem ty x y ty' := by rfl) (hx : OT F x (Is (.int k a)) := by first | exact ot_tmp rfl | exact ot_const | exact ot_func | exact ot_when rfl (by first | assumption | (simp_all; done)) | exact ot_when_and rfl (by first | assumption | (simp_all; done))) (hy : OT F y (Is (.int k b)) := by first | exact ot_tmp rfl | exact ot_const | exact ot_func | exact ot_when rfl (by first | assumption | (simp_all; done)) | exact ot_when_and rfl (by first | assumption | (simp_all; done)))
    (h0 : b ≠ 0 := by omega) : OpT P F M o (Is (.int k (a.tmod b))) :=
  t_bin ho hx hy fun w => by simp [eqGuard, binOp, Op.intDiv, h0]
theorem t_lss {ty ty' : TypeId} {x y : Operand} {k : IntKind} {a b : Int} (ho : o.op = .binOp .lss ty x y ty' := by rfl) (hx : OT F x (Is (.int k a)) := by first | exact ot_tmp rfl | exact ot_const | exact ot_func | exact ot_when rfl (by first | assumption | (simp_all; done)) | exact ot_when_and rfl (by first | assumption | (simp_all; done))) (hy : OT F y (Is (.int k b)) := by first | exact ot_tmp rfl | exact ot_const | exact ot_func | exact ot_when rfl (by first | assumption | (simp_all; done)) | exact ot_when_and rfl (by first | assumption | (simp_all; done))) : OpT P F M o (Is (.bool (decide (a < b)))) :=
  t_bin ho hx hy fun w => by simp [eqGuard, binOp, Op.intCmp]
theorem t_leq {ty ty' : TypeId} {x y : Operand} {k : IntKind} {a b : Int} (ho : o.op = .binOp .leq ty x y ty' := by rfl) (hx : OT F x (Is (.int k a)) := by first | exact ot_tmp rfl | exact ot_const | exact ot_func | exact ot_when rfl (by first | assumption | (simp_all; done)) | exact ot_when_and rfl (by first | assumption | (simp_all; done))) (hy : OT F y (Is (.int k b)) := by first | exact ot_tmp rfl | exact ot_const | exact ot_func | exact ot_when rfl (by first | assumption | (simp_all; done)) | exact ot_when_and rfl (by first | assumption | (simp_all; done))) : OpT P F M o (Is (.bool (decide (a ≤ b)))) :=
  t_bin ho hx hy fun w => by simp [eqGuard, binOp, Op.intCmp]
theorem t_gtr {ty ty' : TypeId} {x y : Operand} {k : IntKind} {a b : Int} (ho : o.op = .binOp .gtr ty x y ty' := by rfl) (hx : OT F x (Is (.int k a)) := by first | exact ot_tmp rfl | exact ot_const | exact ot_func | exact ot_when rfl (by first | assumption | (simp_all; done)) | exact ot_when_and rfl (by first | assumption | (simp_all; done))) (hy : OT F y (Is (.int k b)) := by first | exact ot_tmp rfl | exact ot_const | exact ot_func | exact ot_when rfl (by first | assumption | (simp_all; done)) | exact ot_when_and rfl (by first | assumption | (simp_all; done))) : OpT P F M o (Is (.bool (decide (b < a)))) :=
  t_bin ho hx hy fun w => by simp [eqGuard, binOp, Op.intCmp]
theorem t_geq {ty ty' : TypeId} {x y : Operand} {k : IntKind} {a b : Int} (ho : o.op = .binOp .geq ty x y ty' := by rfl) (hx : OT F x (Is (.int k a)) := by first | exact ot_tmp rfl | exact ot_const | exact ot_func | exact ot_when rfl (by first | assumption | (simp_all; done)) | exact ot_when_and rfl (by first | assumption | (simp_all; done))) (hy : OT F y (Is (.int k b)) := by first | exact ot_tmp rfl | exact ot_const | exact ot_func | exact ot_when rfl (by first | assumption | (simp_all; done)) | exact ot_when_and rfl (by first | assumption | (simp_all; done))) : OpT P F M o (Is (.bool (decide (b ≤ a)))) :=
  t_bin ho hx hy fun w => by simp [eqGuard, binOp, Op.intCmp]
theorem t_eql {ty ty' : TypeId} {x y : Operand} {k : IntKind} {a b : Int} (ho : o.op = .binOp .eql ty x y ty' := by rfl) (hx : OT F x (Is (.int k a)) := by first | exact ot_tmp rfl | exact ot_const | exact ot_func | exact ot_when rfl (by first | assumption | (simp_all; done)) | exact ot_when_and rfl (by first | assumption | (simp_all; done))) (hy : OT F y (Is (.int k b)) := by first | exact ot_tmp rfl | exact ot_const | exact ot_func | exact ot_when rfl (by first | assumption | (simp_all; done)) | exact ot_when_and rfl (by first | assumption | (simp_all; done))) : OpT P F M o (Is (.bool (decide (a = b)))) :=
  t_bin ho hx hy fun w => by simp [eqGuard, binOp, Op.intCmp, Bool.beq_eq_decide_eq]
theorem t_neq {ty ty' : TypeId} {x y : Operand} {k : IntKind} {a b : Int} (ho : o.op = .binOp .neq ty x y ty' := by rfl) (hx : OT F x (Is (.int k a)) := by first | exact ot_tmp rfl | exact ot_const | exact ot_func | exact ot_when rfl (by first | assumption | (simp_all; done)) | exact ot_when_and rfl (by first | assumption | (simp_all; done))) (hy : OT F y (Is (.int k b)) := by first | exact ot_tmp rfl | exact ot_const | exact ot_func | exact ot_when rfl (by first | assumption | (simp_all; done)) | exact ot_when_and rfl (by first | assumption | (simp_all; done))) : OpT P F M o (Is (.bool (decide (a ≠ b)))) :=
  t_bin ho hx hy fun w => by simp [eqGuard, binOp, Op.intCmp, bne, Bool.beq_eq_decide_eq]
theorem t_eqs {ty ty' : TypeId} {x y : Operand} {a b : ByteArray} (ho : o.op = .binOp .eql ty x y ty' := by rfl) (hx : OT F x (Is (.string a)) := by first | exact ot_tmp rfl | exact ot_const | exact ot_func | exact ot_when rfl (by first | assumption | (simp_all; done)) | exact ot_when_and rfl (by first | assumption | (simp_all; done))) (hy : OT F y (Is (.string b)) := by first | exact ot_tmp rfl | exact ot_const | exact ot_func | exact ot_when rfl (by first | assumption | (simp_all; done)) | exact ot_when_and rfl (by first | assumption | (simp_all; done))) : OpT P F M o (Is (.bool (decide (a.data.toList = b.data.toList)))) :=
  t_bin ho hx hy fun w => by simp [eqGuard, binOp, Op.stringOp, ByteArray.toList_eq, Bool.beq_eq_decide_eq]
theorem t_nes {ty ty' : TypeId} {x y : Operand} {a b : ByteArray} (ho : o.op = .binOp .neq ty x y ty' := by rfl) (hx : OT F x (Is (.string a)) := by first | exact ot_tmp rfl | exact ot_const | exact ot_func | exact ot_when rfl (by first | assumption | (simp_all; done)) | exact ot_when_and rfl (by first | assumption | (simp_all; done))) (hy : OT F y (Is (.string b)) := by first | exact ot_tmp rfl | exact ot_const | exact ot_func | exact ot_when rfl (by first | assumption | (simp_all; done)) | exact ot_when_and rfl (by first | assumption | (simp_all; done))) : OpT P F M o (Is (.bool (decide (a.data.toList ≠ b.data.toList)))) :=
  t_bin ho hx hy fun w => by simp [eqGuard, binOp, Op.stringOp, ByteArray.toList_eq, Bool.beq_eq_decide_eq]
theorem t_farith {op : BinOp} {ty ty' : TypeId} {x y : Operand} {k : FloatKind} {a b r : Nat} (ho : o.op = .binOp op ty x y ty' := by rfl) (hx : OT F x (Is (.float k a)) := by first | exact ot_tmp rfl | exact ot_const | exact ot_func | exact ot_when rfl (by first | assumption | (simp_all; done)) | exact ot_when_and rfl (by first | assumption | (simp_all; done))) (hy : OT F y (Is (.float k b)) := by first | exact ot_tmp rfl | exact ot_const | exact ot_func | exact ot_when rfl (by first | assumption | (simp_all; done)) | exact ot_when_and rfl (by first | assumption | (simp_all; done)))
    (hr : floatBits op k a b = some r) : OpT P F M o (Is (.float k r)) :=
  t_bin ho hx hy fun w => by
    have h := run_float_arith (P := P) w op ty k a b r hr
    cases op <;> first | (cases hr; done) | simp [eqGuard, h]

def fcmp (op : BinOp) (k : FloatKind) (x y : Nat) : Bool :=
  match op with
  | .eql => k.format.order x y == some .eq
  | .neq => k.format.order x y != some .eq
  | .lss => k.format.order x y == some .lt
  | .leq => k.format.order x y == some .lt || k.format.order x y == some .eq
  | .gtr => k.format.order x y == some .gt
  | _ => k.format.order x y == some .gt || k.format.order x y == some .eq

theorem t_fcmp {op : BinOp} {ty ty' : TypeId} {x y : Operand} {k : FloatKind} {a b : Nat} (ho : o.op = .binOp op ty x y ty' := by rfl) (hx : OT F x (Is (.float k a)) := by first | exact ot_tmp rfl | exact ot_const | exact ot_func | exact ot_when rfl (by first | assumption | (simp_all; done)) | exact ot_when_and rfl (by first | assumption | (simp_all; done))) (hy : OT F y (Is (.float k b)) := by first | exact ot_tmp rfl | exact ot_const | exact ot_func | exact ot_when rfl (by first | assumption | (simp_all; done)) | exact ot_when_and rfl (by first | assumption | (simp_all; done)))
    (hop : op = .eql ∨ op = .neq ∨ op = .lss ∨ op = .leq ∨ op = .gtr ∨ op = .geq := by first | exact .inl rfl | exact .inr (.inl rfl) | exact .inr (.inr (.inl rfl)) | exact .inr (.inr (.inr (.inl rfl))) | exact .inr (.inr (.inr (.inr (.inl rfl)))) | exact .inr (.inr (.inr (.inr (.inr rfl))))) : OpT P F M o (Is (.bool (fcmp op k a b))) :=
  t_bin ho hx hy fun w => by
    rcases hop with rfl | rfl | rfl | rfl | rfl | rfl <;> simp [eqGuard, binOp, Op.floatCmp, fcmp]

theorem t_not {ty : TypeId} {x : Operand} {q : Bool} (ho : o.op = .unOp .not ty x := by rfl) (hx : OT F x (Is (.bool q)) := by first | exact ot_tmp rfl | exact ot_const | exact ot_func | exact ot_when rfl (by first | assumption | (simp_all; done)) | exact ot_when_and rfl (by first | assumption | (simp_all; done))) : OpT P F M o (Is (.bool (!q))) :=
  opT_val fun t V w hf _ _ => ⟨.bool (!q), by simp [execOp, ho, ot_is hx hf (by simp [ho, Op.operands]), Op.unary], rfl⟩
theorem t_neg {ty : TypeId} {x : Operand} {a : Int} (ho : o.op = .unOp .neg ty x := by rfl) (hx : OT F x (Is (.int .i64 a)) := by first | exact ot_tmp rfl | exact ot_const | exact ot_func | exact ot_when rfl (by first | assumption | (simp_all; done)) | exact ot_when_and rfl (by first | assumption | (simp_all; done))) (hb : -9223372036854775808 ≤ 0 - a ∧ 0 - a ≤ 9223372036854775807 := by omega) : OpT P F M o (Is (.int .i64 (0 - a))) :=
  opT_val fun t V w hf _ _ => ⟨.int .i64 (0 - a), by simp only [execOp, ho, ot_is hx hf (by simp [ho, Op.operands]), Op.unary, Op.intArith, IntWalk.i64_in _ hb]; rfl, rfl⟩

theorem t_conv_ii {s d : TypeId} {x : Operand} {k j : IntKind} {a : Int} {ds : TypeDesc} (ho : o.op = .convert s d x := by rfl) (hx : OT F x (Is (.int j a)) := by first | exact ot_tmp rfl | exact ot_const | exact ot_func | exact ot_when rfl (by first | assumption | (simp_all; done)) | exact ot_when_and rfl (by first | assumption | (simp_all; done))) (u1 : UndT P s ds := by infer_instance) (u2 : UndT P d (.int k) := by infer_instance) : OpT P F M o (Is (.int k (k.wrap a))) :=
  opT_val fun t V w hf _ _ => ⟨.int k (k.wrap a), by
    simp [execOp, ho, ot_is hx hf (by simp [ho, Op.operands]), convert, run_underlying (UndT.h (P := P) (t := s)), run_underlying (UndT.h (P := P) (t := d)), Conv.intToInt], rfl⟩
theorem t_conv_if {s d : TypeId} {x : Operand} {k : FloatKind} {j : IntKind} {a : Int} {ds : TypeDesc} (ho : o.op = .convert s d x := by rfl) (hx : OT F x (Is (.int j a)) := by first | exact ot_tmp rfl | exact ot_const | exact ot_func | exact ot_when rfl (by first | assumption | (simp_all; done)) | exact ot_when_and rfl (by first | assumption | (simp_all; done))) (u1 : UndT P s ds := by infer_instance) (u2 : UndT P d (.float k) := by infer_instance) : OpT P F M o (Is (.float k (k.nearest a))) :=
  opT_val fun t V w hf _ _ => ⟨.float k (k.nearest a), by
    simp [execOp, ho, ot_is hx hf (by simp [ho, Op.operands]), convert, run_underlying (UndT.h (P := P) (t := s)), run_underlying (UndT.h (P := P) (t := d)), Conv.intToFloat], rfl⟩
theorem t_conv_fi {s d : TypeId} {x : Operand} {k : IntKind} {j : FloatKind} {a : Nat} {n : Int} {ds : TypeDesc} (ho : o.op = .convert s d x := by rfl) (hx : OT F x (Is (.float j a)) := by first | exact ot_tmp rfl | exact ot_const | exact ot_func | exact ot_when rfl (by first | assumption | (simp_all; done)) | exact ot_when_and rfl (by first | assumption | (simp_all; done))) (u1 : UndT P s ds := by infer_instance) (u2 : UndT P d (.int k) := by infer_instance)
    (hn : floatToIntVal j a k = some n) : OpT P F M o (Is (.int k n)) :=
  opT_val fun t V w hf _ _ => ⟨.int k n, by
    have h := run_convert_float_int (P := P) w s d j k a n (by rw [UndT.h (P := P) (t := s)]; rfl) (UndT.h (P := P) (t := d)) hn
    simp [execOp, ho, ot_is hx hf (by simp [ho, Op.operands]), h], rfl⟩

theorem t_len {α : Type} [Enc α] {xs : List α} {x : Operand} {t : TypeId} {e : TypeId} (ho : o.op = .call { callee := .builtin .len, args := #[x], argTypes := #[t] } := by rfl) (hx : OT F x (Sl xs) := by first | exact ot_tmp rfl | exact ot_const | exact ot_func | exact ot_when rfl (by first | assumption | (simp_all; done)) | exact ot_when_and rfl (by first | assumption | (simp_all; done))) (u : UndT P t (.slice e) := by infer_instance) : OpT P F M o (Is (.int .i64 xs.length)) :=
  opT_val fun tm V w hf _ _ => by
    obtain ⟨a, n, cap, h1, h2, _⟩ := hx.h tm V (hf _ (by simp [ho, Op.operands, Call.operands]))
    exact ⟨.int .i64 xs.length, by simp [execOp, ho, resolve, invoke, builtin, Builtin.len_, h1, h2, run_underlying u.h, goInt], rfl⟩
theorem t_len_str {s : ByteArray} {x : Operand} {t : TypeId} (ho : o.op = .call { callee := .builtin .len, args := #[x], argTypes := #[t] } := by rfl) (hx : OT F x (Is (.string s)) := by first | exact ot_tmp rfl | exact ot_const | exact ot_func | exact ot_when rfl (by first | assumption | (simp_all; done)) | exact ot_when_and rfl (by first | assumption | (simp_all; done))) (u : UndT P t .string := by infer_instance) : OpT P F M o (Is (.int .i64 s.size)) :=
  opT_val fun tm V w hf _ _ => ⟨.int .i64 s.size, by simp [execOp, ho, resolve, invoke, builtin, Builtin.len_, ot_is hx hf (by simp [ho, Op.operands, Call.operands]), run_underlying u.h, goInt], rfl⟩

theorem t_extract {Ts : List Ty} {x : Operand} {i : Nat} (ho : o.op = .extract x i := by rfl) (hx : OT F x (Tup Ts) := by first | exact ot_tmp rfl | exact ot_const | exact ot_func | exact ot_when rfl (by first | assumption | (simp_all; done)) | exact ot_when_and rfl (by first | assumption | (simp_all; done))) (hi : Ts[i]? = some T := by rfl) : OpT P F M o T :=
  opT_val fun tm V w hf _ _ => by
    obtain ⟨vs, h1, h2, h3⟩ := hx.h tm V (hf _ (by simp [ho, Op.operands]))
    obtain ⟨c, h4, h5⟩ := h3 i T hi
    exact ⟨c, by simp [execOp, ho, h1, Instr.extract, h4], h5⟩

end
end Go.Rt
