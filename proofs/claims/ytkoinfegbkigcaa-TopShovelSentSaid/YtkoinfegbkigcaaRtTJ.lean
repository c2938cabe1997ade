/- A part of the proof: contracts of functions of the program, each for the inputs that its premises name. -/
import Derived.Test.YtkoinfegbkigcaaRtTI
namespace Go.Proofs.Ytkoinfegbkigcaa
open Go.Rt
set_option maxHeartbeats 400000

theorem four_eq (a b c d : Int) (w : World) : (Op.equalIn 10000 274 (.agg #[.int .u8 a, .int .u8 b, .int .u8 c, .int .u8 d]) (.agg #[.int .u8 a, .int .u8 b, .int .u8 c, .int .u8 d])).run Try.prog w = .ok true w := by
  have hs : ∀ w, (sizeOf 5).run Try.prog w = .ok 1 w := fun w => SizeT.h w
  have hg : ∀ w, (isAgg 5).run Try.prog w = .ok false w := fun w => AggT.h w
  have he : ∀ w a b, (Op.equalIn 9999 5 (.int .u8 a) (.int .u8 b)).run Try.prog w = .ok (a == b) w := fun w a b => run_equalIn_int w 9998 5 .u8 .u8 a b (UndT.h (P := Try.prog) (t := 5))
  have hu : ∀ w, (underlying 274).run Try.prog w = .ok (.array 4 5) w := fun w => run_underlying (UndT.h (P := Try.prog) (t := 274)) w
  rw [show (10000 : Nat) = 9999 + 1 from rfl]
  unfold Op.equalIn
  simp [hu, hs, Std.Legacy.Range.forIn_eq_forIn_range', List.range', part, hg, he]

theorem bytes4 {l : List UInt8} (hl : l.length = 4) {v : Value} {V : View} (h : (Agg (l.flatMap Enc.ty)).p v V) : v = .agg #[.int .u8 (l.getD 0 0).toNat, .int .u8 (l.getD 1 0).toNat, .int .u8 (l.getD 2 0).toNat, .int .u8 (l.getD 3 0).toNat] := by
  match l, hl with
  | [a, b, c, d], _ =>
    obtain ⟨cs, rfl, h2, h3⟩ := h
    obtain ⟨c0, e0, f0⟩ := h3 0 _ rfl
    obtain ⟨c1, e1, f1⟩ := h3 1 _ rfl
    obtain ⟨c2, e2, f2⟩ := h3 2 _ rfl
    obtain ⟨c3, e3, f3⟩ := h3 3 _ rfl
    have f0' : c0 = .int .u8 a.toNat := f0
    have f1' : c1 = .int .u8 b.toNat := f1
    have f2' : c2 = .int .u8 c.toNat := f2
    have f3' : c3 = .int .u8 d.toNat := f3
    subst f0'; subst f1'; subst f2'; subst f3'
    congr 1
    apply Array.ext'
    apply List.ext_getElem?
    intro i
    match i with
    | 0 => simpa using e0
    | 1 => simpa using e1
    | 2 => simpa using e2
    | 3 => simpa using e3
    | i + 4 =>
      have : cs.size = 4 := h2
      simp [this]

theorem t_fourNe {F : List (Nat × Ty)} {M : List Res} {o : Oper} {x y : Operand} {l : List UInt8} (hl : l.length = 4) (ho : o.op = .binOp .neq 274 x y 274 := by rfl) (hx : OT F x (Agg (l.flatMap Enc.ty)) := by exact ot_tmp rfl) (hy : OT F y (Agg (l.flatMap Enc.ty)) := by exact ot_tmp rfl) : OpT Try.prog F M o (Is (.bool false)) :=
  opT_val fun tm V w hf _ _ => by
    have h1 := bytes4 hl (hx.h tm V (hf _ (by simp [ho, Op.operands])))
    have h2 := bytes4 hl (hy.h tm V (hf _ (by simp [ho, Op.operands])))
    have hq := fun xs ys => run_eqGuard_agg (P := Try.prog) w .neq 274 x y xs ys (by kernel_rfl)
    exact ⟨.bool false, by simp [execOp, ho, h1, h2, hq, run_neq_struct, four_eq], rfl⟩

end Go.Proofs.Ytkoinfegbkigcaa
