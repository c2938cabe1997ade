/- A part of the proof: contracts of functions of the program, each for the inputs that its premises name. -/
import Derived.Test.YtkoinfegbkigcaaRtTC
namespace Go.Proofs.Ytkoinfegbkigcaa
open Go.Rt
set_option maxHeartbeats 400000

/-- The lowest byte of a number. -/
def by8 (n : Int) : UInt8 := UInt8.ofNat (n % 256).toNat
theorem by8_nat (n : Int) : ((by8 n).toNat : Int) = n % 256 := by
  have h : (n % 256).toNat < 256 := by omega
  simp [by8, UInt8.toNat_ofNat', Nat.mod_eq_of_lt h]
  omega
theorem is_u8 (n : Int) : Is (.int .u8 (IntKind.u8.wrap n)) = Va (by8 n) := by
  show Is _ = Is (.int .u8 ((by8 n).toNat : Int))
  rw [by8_nat]
  congr 2

theorem two_fn (v : Value) (bs : List UInt8) (n : Int) (hl : bs.length ≤ 100000) : SpecR Try.prog 56 [Is v, Va n] [RowV v 5 bs] Value Is (fun v' => [RowV v' 5 (bs ++ [by8 (n / 256), by8 n])]) := by
  refine spec_enter Try.func56 rfl Try.ntmps56 Try.call56 (by simp) fun C _ => ?_
  refine g_seq ?_
  refine gl_region ?_
  refine gl_op t_assign ?_
  refine gl_nil ?_
  refine g_seq ?_
  refine gl_region ?_
  refine gl_op t_move ?_
  refine gl_op t_move ?_
  refine gl_op (t_shr) ?_
  refine gl_op (t_conv_ii) ?_
  refine gl_op t_move ?_
  refine gl_op (t_conv_ii) ?_
  refine gl_op (t_buildSlice (α := UInt8) (xs := [by8 (n / 256), by8 n]) (hp := .cons (ot_eq rfl (is_u8 _)) (.cons (ot_eq rfl (is_u8 _)) .nil))) ?_
  refine gl_opM m_append (fun v' => ?_)
  refine gl_op t_assign ?_
  refine gl_nil ?_
  exact g_ret Try.func56 v' (res1 Try.results56 rfl) (.inl rfl)

def be4 (n : Int) : List UInt8 := [by8 (n / 65536 / 256), by8 (n / 65536), by8 (n / 256), by8 n]

theorem four_fn (v : Value) (bs : List UInt8) (n : Int) (hl : bs.length ≤ 90000) : SpecR Try.prog 57 [Is v, Va n] [RowV v 5 bs] Value Is (fun v' => [RowV v' 5 (bs ++ be4 n)]) := by
  refine spec_enter Try.func57 rfl Try.ntmps57 Try.call57 (by simp) fun C _ => ?_
  refine g_seq ?_
  refine gl_region ?_
  refine gl_op t_assign ?_
  refine gl_nil ?_
  refine g_seq ?_
  refine gl_region ?_
  refine gl_op t_move ?_
  refine gl_op t_move ?_
  refine gl_op (t_shr) ?_
  refine gl_opM (m_callR1 (two_fn v bs (n / 65536) (by omega))) (fun v1 => ?_)
  refine gl_op t_move ?_
  refine gl_opM (m_callR1 (two_fn v1 (bs ++ [by8 (n / 65536 / 256), by8 (n / 65536)]) n (by simp; omega))) (fun v2 => ?_)
  refine gl_op t_assign ?_
  refine gl_nil ?_
  refine g_eqM (M' := [RowV v2 5 (bs ++ be4 n)]) (by simp [be4]) ?_
  exact g_ret Try.func57 v2 (res1 Try.results57 rfl) (.inl rfl)

end Go.Proofs.Ytkoinfegbkigcaa
