/- A part of the proof: contracts of functions of the program, each for the inputs that its premises name. -/
import Derived.Test.YtkoinfegbkigcaaRtTM
import Derived.Laws.Cover3
namespace Go.Proofs.Ytkoinfegbkigcaa
open Go.Rt
set_option maxHeartbeats 400000

theorem and_mask (n i : Nat) (a m : Int) (h0 : 0 ≤ a) (h1 : a < 2 ^ n) (hi : i ≤ n) (hm : m = ((2 ^ i - 1 : Nat) : Int)) : (((BitVec.ofInt n a &&& BitVec.ofInt n m).toNat : Nat) : Int) = a % 2 ^ i := by
  subst hm
  obtain ⟨x, rfl⟩ : ∃ x : Nat, a = x := ⟨a.toNat, by omega⟩
  have hx : x < 2 ^ n := by exact_mod_cast h1
  have hle : 2 ^ i - 1 < 2 ^ n := by
    have h2 : 2 ^ i ≤ 2 ^ n := Nat.pow_le_pow_right (by omega) hi
    have h3 : 0 < 2 ^ i := Nat.two_pow_pos i
    omega
  rw [BitVec.ofInt_natCast, BitVec.ofInt_natCast, BitVec.toNat_and, BitVec.toNat_ofNat, BitVec.toNat_ofNat, Nat.mod_eq_of_lt hx, Nat.mod_eq_of_lt hle, Nat.and_two_pow_sub_one_eq_mod]
  norm_cast

section
variable {P : Program} {F : List (Nat × Ty)} {M : List Res} {o : Oper} {T : Ty}
theorem t_andm {ty ty' : TypeId} {x y : Operand} {k : IntKind} {a m : Int} (i : Nat) (ho : o.op = .binOp .and ty x y ty' := by rfl) (hx : OT F x (Is (.int k a)) := by first | exact ot_tmp rfl | exact ot_const) (hy : OT F y (Is (.int k m)) := by first | exact ot_tmp rfl | exact ot_const)
    (hm : m = ((2 ^ i - 1 : Nat) : Int) := by decide) (hi : i ≤ k.bits := by decide) (h0 : 0 ≤ a := by omega) (h1 : a < 2 ^ k.bits) (hw : ∀ r : Int, 0 ≤ r → r < 2 ^ i → k.wrap r = r) : OpT P F M o (Is (.int k (a % 2 ^ i))) :=
  t_bin ho hx hy fun w => by
    have h := and_mask k.bits i a m h0 h1 hi hm
    have h2 := hw (a % 2 ^ i) (Int.emod_nonneg _ (by have := Int.pow_pos (n := (2 : Int)) (m := i) (by decide); omega)) (Int.emod_lt_of_pos _ (Int.pow_pos (by decide)))
    have h3 : k.wrap (((BitVec.ofInt k.bits a &&& BitVec.ofInt k.bits m).toNat : Nat) : Int) = a % 2 ^ i := by rw [h, h2]
    simp [eqGuard, binOp, Op.intBits, -BitVec.toNat_and, h3]

theorem t_sliceNil {α : Type} [Enc α] {xs : List α} {ty ty' e : TypeId} {x : Operand} (ho : o.op = .binOp .eql ty x (.const (.slice none 0 0)) ty' := by rfl) (hx : OT F x (Sl xs) := by exact ot_tmp rfl) (u : UndT P ty (.slice e) := by infer_instance) :
    OpM P F M o {q : Bool // q = true → xs = []} (fun q => Is (.bool q.1)) (fun _ => M) := by
  refine ⟨fun tm w V hf hh hm => ?_⟩
  obtain ⟨a, n, c, h1, h2, _, _, h3⟩ := hx.h tm V (hf _ (by simp [ho, Op.operands]))
  unfold OpRuns
  have : (execOp (ev tm) o).run P w = .ok (.value (.bool a.isNone)) w := by
    simp [execOp, ho, h1, ev_const, eqGuard, binOp, run_equal_slice_nil (P := P) (w := w) ty e a n c u.h]
  rw [this]
  refine ⟨⟨a.isNone, fun hn => ?_⟩, V, Evo.refl hh, rfl, hm, fun b hb => .inl hb⟩
  cases a with
  | none =>
    cases xs with
    | nil => rfl
    | cons y ys => obtain ⟨a', h4, _⟩ := h3 (by simp); cases h4
  | some a => cases hn
end

theorem fields35 : Try.prog.fieldsOf 35 = #[{ name := "Source", type := 3, offset := 0, embedded := false, tag := "", pkgPath := "", byteOffset := 0 }, { name := "Counter", type := 3, offset := 1, embedded := false, tag := "", pkgPath := "", byteOffset := 8 }, { name := "Readings", type := 33, offset := 2, embedded := false, tag := "", pkgPath := "", byteOffset := 16 }] := by
  simp [Program.fieldsOf, Try.underlying35]

def pktV (p : Packet) : Array Value := #[.int .i64 p.src, .int .i64 p.ctr, .float .f32 p.a.bits, .float .f32 p.b.bits, .float .f32 p.c.bits]

theorem arr3_eq (a b c : Nat) (ha : fcmp .eql .f32 a a = true) (hb : fcmp .eql .f32 b b = true) (hc : fcmp .eql .f32 c c = true) (w : World) :
    (Op.equalIn 9999 33 (.agg #[.float .f32 a, .float .f32 b, .float .f32 c]) (.agg #[.float .f32 a, .float .f32 b, .float .f32 c])).run Try.prog w = .ok true w := by
  have hs : ∀ w, (sizeOf 32).run Try.prog w = .ok 1 w := fun w => SizeT.h w
  have hg : ∀ w, (isAgg 32).run Try.prog w = .ok false w := fun w => AggT.h w
  have hu : ∀ w, (underlying 33).run Try.prog w = .ok (.array 3 32) w := fun w => run_underlying (UndT.h (P := Try.prog) (t := 33)) w
  have hu2 : ∀ w, (underlying 32).run Try.prog w = .ok (.float .f32) w := fun w => run_underlying (UndT.h (P := Try.prog) (t := 32)) w
  have he : ∀ w x, fcmp .eql .f32 x x = true → (Op.equalIn 9998 32 (.float .f32 x) (.float .f32 x)).run Try.prog w = .ok true w := fun w x hx => by
    rw [show (9998 : Nat) = 9997 + 1 from rfl]
    unfold Op.equalIn
    simp only [fcmp] at hx
    simp [hu2, Op.floatEq, hx]
  rw [show (9999 : Nat) = 9998 + 1 from rfl]
  unfold Op.equalIn
  simp [hu, hs, Std.Legacy.Range.forIn_eq_forIn_range', List.range', part, hg, he _ _ ha, he _ _ hb, he _ _ hc]

theorem pkt_eq (p : Packet) (hp : PktOk p) (w : World) : (Op.equalIn 10000 35 (.agg (pktV p)) (.agg (pktV p))).run Try.prog w = .ok true w := by
  rw [run_equalIn_struct w 9999 35 _ _ (by kernel_rfl) (by kernel_rfl), fields35]
  have hg : ∀ w, (isAgg 3).run Try.prog w = .ok false w := fun w => AggT.h w
  have hg2 : ∀ w, (isAgg 33).run Try.prog w = .ok true w := fun w => AggT.h w
  have hs2 : ∀ w, (sizeOf 33).run Try.prog w = .ok 3 w := fun w => SizeT.h w
  have he : ∀ w a b, (Op.equalIn 9999 3 (.int .i64 a) (.int .i64 b)).run Try.prog w = .ok (a == b) w := fun w a b => run_equalIn_int w 9998 3 .i64 .i64 a b (UndT.h (P := Try.prog) (t := 3))
  have h3 := arr3_eq p.a.bits p.b.bits p.c.bits hp.a.f.refl hp.b.f.refl hp.c.f.refl
  simp [Op.eqFields, Sem.run_bind, Sem.run_ite, part, hg, hg2, hs2, he, pktV, h3]

end Go.Proofs.Ytkoinfegbkigcaa
