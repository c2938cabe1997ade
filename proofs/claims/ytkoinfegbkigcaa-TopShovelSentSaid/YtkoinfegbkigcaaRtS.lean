/- Samples as floats: what the program asks of one, computed from its bits. -/
import Derived.Test.YtkoinfegbkigcaaRtL
import Derived.KernelRfl
namespace Go.Rt

/-- The bits of the sample of an integer. -/
def smpB (n : Int) : Nat := (floatBits .quo .f32 (FloatKind.f32.nearest n) 1098907648).getD 0
def smp (n : Int) : F32 := ⟨smpB n⟩
/-- The integer of a sample. -/
def valB (b : Nat) : Int := ((floatBits .mul .f32 1098907648 b).bind fun m => floatToIntVal .f32 m .i64).getD 0
def F32.val (x : F32) : Int := valB x.bits

/-- A multiple of 1/16 from -1024 to 1024, as the program finds it out. -/
def okB (b : Nat) : Bool :=
  match floatBits .sub .f32 b b, floatBits .mul .f32 b 1098907648, floatBits .mul .f32 1098907648 b with
  | some z, some m, some m' =>
    !fcmp .neq .f32 z 0 && !fcmp .lss .f32 b (FloatKind.f32.nearest (-1024)) && !fcmp .gtr .f32 b (FloatKind.f32.nearest 1024) && Nat.beq m m' &&
    floatToIntVal .f32 m .i64 == some (valB b) && !fcmp .neq .f32 m (FloatKind.f32.nearest (valB b)) && !fcmp .neq .f32 (FloatKind.f32.nearest (valB b)) m &&
    (fcmp .neq .f32 b 0 == !decide (valB b = 0)) && (fcmp .eql .f32 b 0 == decide (valB b = 0)) && fcmp .eql .f32 b b && !fcmp .neq .f32 b b &&
    !fcmp .gtr .f32 b 2139095039 && !fcmp .lss .f32 b 4286578687 && decide (-16384 ≤ valB b) && decide (valB b ≤ 16384) && Nat.blt b 4294967296
  | _, _, _ => false
def Good (x : F32) : Prop := okB x.bits = true

structure GoodF (b : Nat) : Prop where
  sub : ∃ z, floatBits .sub .f32 b b = some z ∧ fcmp .neq .f32 z 0 = false
  lss : fcmp .lss .f32 b (FloatKind.f32.nearest (-1024)) = false
  gtr : fcmp .gtr .f32 b (FloatKind.f32.nearest 1024) = false
  mul : ∃ m, floatBits .mul .f32 b 1098907648 = some m ∧ floatBits .mul .f32 1098907648 b = some m ∧ floatToIntVal .f32 m .i64 = some (valB b) ∧
    fcmp .neq .f32 m (FloatKind.f32.nearest (valB b)) = false ∧ fcmp .neq .f32 (FloatKind.f32.nearest (valB b)) m = false
  nz : fcmp .neq .f32 b 0 = !decide (valB b = 0)
  ez : fcmp .eql .f32 b 0 = decide (valB b = 0)
  refl : fcmp .eql .f32 b b = true
  irr : fcmp .neq .f32 b b = false
  max : fcmp .gtr .f32 b 2139095039 = false
  min : fcmp .lss .f32 b 4286578687 = false
  lo : -16384 ≤ valB b
  hi : valB b ≤ 16384
  lt : b < 4294967296

theorem Good.f {x : F32} (h : Good x) : GoodF x.bits := by
  unfold Good okB at h
  split at h
  · rename_i z m m' e1 e2 e3
    simp only [Bool.and_eq_true, Bool.not_eq_true', decide_eq_true_eq, beq_iff_eq, Nat.blt_eq] at h
    obtain ⟨⟨⟨⟨⟨⟨⟨⟨⟨⟨⟨⟨⟨⟨⟨h1, h2⟩, h3⟩, h4⟩, h5⟩, h6⟩, h7⟩, h8⟩, h9⟩, h10⟩, h11⟩, h12⟩, h13⟩, h14⟩, h15⟩, h16⟩ := h
    have h4 := Nat.eq_of_beq_eq_true h4; subst h4
    exact ⟨⟨z, e1, h1⟩, h2, h3, ⟨m, e2, e3, h5, h6, h7⟩, h8, h9, h10, h11, h12, h13, h14, h15, h16⟩
  · cases h

/-- The integers whose samples are looked at one by one. -/
def SmpR (n : Int) : Prop := -128 ≤ n ∧ n ≤ 127
def smpChk (n : Int) : Bool :=
  (floatBits .quo .f32 (FloatKind.f32.nearest n) 1098907648 == some (smpB n)) && okB (smpB n) && (valB (smpB n) == n) && (decide (n = 0) == Nat.beq (smpB n) 0) && !Nat.beq (smpB n) 2147483648
def smpAll (lo : Int) (k : Nat) : Bool := (List.range k).all fun i => smpChk (lo + i)
theorem smp_all : smpAll (-128) 256 = true := by kernel_rfl
theorem smp_chk {n : Int} (h : SmpR n) : smpChk n = true := by
  have := smp_all
  unfold smpAll at this
  simp only [List.all_eq_true, List.mem_range] at this
  have h2 := this (n + 128).toNat (by unfold SmpR at h; omega)
  rw [show (-128 : Int) + ((n + 128).toNat : Nat) = n from by unfold SmpR at h; omega] at h2
  exact h2
theorem smp_quo {n : Int} (h : SmpR n) : floatBits .quo .f32 (FloatKind.f32.nearest n) 1098907648 = some (smpB n) := by
  have := smp_chk h; simp only [smpChk, Bool.and_eq_true, beq_iff_eq] at this; exact this.1.1.1.1
theorem smp_good {n : Int} (h : SmpR n) : Good (smp n) := by
  have := smp_chk h; simp only [smpChk, Bool.and_eq_true, beq_iff_eq] at this; exact this.1.1.1.2
theorem smp_val {n : Int} (h : SmpR n) : (smp n).val = n := by
  have := smp_chk h; simp only [smpChk, Bool.and_eq_true, beq_iff_eq] at this; exact this.1.1.2
theorem smp_zero {n : Int} (h : SmpR n) : smpB n = 0 ↔ n = 0 := by
  have := smp_chk h; simp only [smpChk, Bool.and_eq_true, beq_iff_eq] at this
  have h2 := this.1.2
  constructor
  · intro e; rw [e] at h2; simpa using h2
  · intro e; subst e; have : Nat.beq (smpB 0) 0 = true := by simpa using h2.symm
    exact Nat.eq_of_beq_eq_true this
end Go.Rt
