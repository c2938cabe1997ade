/- A part of the proof: contracts of functions of the program, each for the inputs that its premises name. -/
import Derived.Test.YtkoinfegbkigcaaRtTH
namespace Go.Proofs.Ytkoinfegbkigcaa
open Go.Rt
set_option maxHeartbeats 400000

/-- A function that is handed a nil row. -/
theorem spec_nil {P : Program} {α : Type} [Enc α] {f : FuncId} {As : List Ty} {E : TypeId} {ys : List α} (h : SpecR P f As [RowV (.slice none 0 0) E ([] : List α)] Value Is (fun v => [RowV v E ys])) : FnS P f As (Sl ys) := by
  refine spec_freeze (E := E) ⟨h.c, fun w V args ha hh _ => ?_⟩
  have hm : Mem [RowV (.slice none 0 0) E ([] : List α)] w V := ⟨by rw [ids_cons_none rfl]; simp [ids], fun x hx => by simp at hx; subst hx; exact .inl ⟨rfl, rfl, rfl⟩⟩
  have e : ids [RowV (.slice none 0 0) E ([] : List α)] = ids [] := by rw [ids_cons_none rfl]
  have := h.h w V args ha hh hm
  rw [e] at this
  exact this

theorem four_nil (n : Int) : FnS Try.prog 57 [Is (.slice none 0 0), Va n] (Sl (be4 n)) := spec_nil (E := 5) (by simpa using four_fn (.slice none 0 0) [] n (by simp))

theorem run_frombits (b : Nat) (w : World) : (callFunc 182 #[.int .u32 b]).run Try.prog w = .ok (.value (.float .f32 b)) w := by
  rw [run_callFunc_extern Try.func182 (by kernel_rfl) (by kernel_rfl) (by kernel_rfl) (e := Extern.MathFloatBits.float32frombits) (by kernel_rfl)]
  rfl

theorem t_frombits {F : List (Nat × Ty)} {M : List Res} {o : Oper} {x : Operand} {b : Nat} {ats : Array TypeId} (ho : o.op = .call { callee := .value (.func 182), args := #[x], argTypes := ats } := by rfl) (hx : OT F x (Is (.int .u32 b)) := by exact ot_tmp rfl) : OpT Try.prog F M o (Is (.float .f32 b)) :=
  opT_val fun tm V w hf _ _ => by
    have h1 := ot_is hx hf (by simp [ho, Op.operands, Call.operands])
    have h2 := run_frombits b w
    have h3 : ev tm (.func 182) = .func (.func 182) #[] #[] := rfl
    exact ⟨.float .f32 b, by simp [execOp, ho, resolve, h3, Deferred.ofValue, invoke, h1, h2], rfl⟩

/-- A part of an array, by its address. -/
theorem t_arr_slice {P : Program} {F : List (Nat × Ty)} {M : List Res} {o : Oper} {α : Type} [Enc α] {t e : TypeId} {x : Operand} {n : Nat} (xs : List α) (lo hi : Option Operand) (l h : Nat) (ho : o.op = .slice t x lo hi none := by rfl) (hx : OT F x (PtrTo (xs.flatMap Enc.ty)) := by exact ot_tmp rfl)
    (u : UndT P t (.array n e) := by infer_instance) (sz : SizeT P e (Enc.sz α) := by infer_instance) (hn : xs.length = n) (h63 : n ≤ 9223372036854775807 := by decide) (hl : (lo = none ∧ l = 0) ∨ ∃ y, lo = some y ∧ OT F y (Is (.int .i64 l))) (hh : (hi = none ∧ h = n) ∨ ∃ y, hi = some y ∧ OT F y (Is (.int .i64 h)))
    (h1 : l ≤ h := by omega) (h2 : h ≤ n := by omega) : OpT P F M o (Sl ((xs.take h).drop l)) :=
  opT_val fun tm V w hf _ _ => by
    obtain ⟨a, e1, e2⟩ := hx.h tm V (hf _ (by simp [ho, Op.operands]))
    have hs : (Sl xs).p (.slice (some a) xs.length n) V := ⟨some a, xs.length, n, rfl, rfl, by omega, h63, fun _ => ⟨a, rfl, e2⟩⟩
    refine ⟨_, ?_, sl_part hs h1 (by omega)⟩
    have b1 : ∀ c, (Instr.sliceBound (.int .i64 (h : Int)) n c).run P w = .ok h w := fun c => by have := run_bound (P := P) (w := w) (k := .i64) (i := (h : Int)) (y := n) (c := c) (by omega) (by omega); simpa using this
    have b2 : ∀ c, (Instr.sliceBound (.int .i64 (l : Int)) h c).run P w = .ok l w := fun c => by have := run_bound (P := P) (w := w) (k := .i64) (i := (l : Int)) (y := h) (c := c) (by omega) (by omega); simpa using this
    have hmap : (if n = l then (some a) else (some a).map (·.add (l * Enc.sz α))) = some (if n = l then a else a.add (l * Enc.sz α)) := by split <;> rfl
    rw [hmap]
    rcases hl with ⟨rfl, rfl⟩ | ⟨y, rfl, hy⟩ <;> rcases hh with ⟨rfl, rfl⟩ | ⟨z, rfl, hz⟩
    · simp [execOp, ho, e1, Instr.sliceAt, Instr.sureAddr, run_underlying u.h, Instr.sliceBounds, sz.h w]
    · have z1 := ot_is hz hf (by simp [ho, Op.operands])
      simp [execOp, ho, e1, z1, Instr.sliceAt, Instr.sureAddr, run_underlying u.h, Instr.sliceBounds, sz.h w, b1]
    · have y1 := ot_is hy hf (by simp [ho, Op.operands])
      simp [execOp, ho, e1, y1, Instr.sliceAt, Instr.sureAddr, run_underlying u.h, Instr.sliceBounds, sz.h w, b2]
    · have y1 := ot_is hy hf (by simp [ho, Op.operands])
      have z1 := ot_is hz hf (by simp [ho, Op.operands])
      simp [execOp, ho, e1, y1, z1, Instr.sliceAt, Instr.sureAddr, run_underlying u.h, Instr.sliceBounds, sz.h w, b1, b2]

end Go.Proofs.Ytkoinfegbkigcaa
