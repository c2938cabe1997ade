/- Types of slots, and the operations that only read or only make new memory. -/
import Derived.Test.YtkoinfegbkigcaaRtB
import Derived.Laws.Append
import Derived.Laws.Wrap64
import Derived.IntWalk
import Derived.Laws.Pointers
import Derived.Laws.Slices
import Derived.Laws.FloatArith
import Derived.Laws.CopyRow
import Derived.Laws.Cells
import Derived.Laws.AppendOwn
import Derived.Laws.OwnMore
import Derived.Laws.MakeOwn
namespace Go.Rt

theorem cells_one {v : Value} (h : v.oneCell' = true) : v.cells = #[v] := by cases v <;> first | rfl | cases h

def Scal (T : Ty) : Prop := ∀ v V, T.p v V → v.oneCell' = true

theorem scal_is {x : Value} (h : x.oneCell' = true) : Scal (Is x) := fun v V e => by cases e; exact h

/-- Cells in the part of memory that turns no more. -/
def Rw (V : View) (a : Addr) (Ts : List Ty) : Prop :=
  a.spot = none ∧ ∃ cs E fz, V a.block = some (.cells cs E fz) ∧ ∀ (i : Nat) (T : Ty), Ts[i]? = some T → ∃ c, cs[a.off + i]? = some c ∧ T.p c V

theorem Rw.le {V V' : View} {a : Addr} {Ts : List Ty} (hl : V.Le V') (h : Rw V a Ts) : Rw V' a Ts := by
  obtain ⟨h0, cs, E, fz, h1, h2⟩ := h
  exact ⟨h0, cs, E, fz, hl _ _ h1, fun i T e => let ⟨c, h3, h4⟩ := h2 i T e; ⟨c, h3, T.mono _ _ _ hl h4⟩⟩

theorem Rw.drop {V : View} {a : Addr} {Ts : List Ty} (h : Rw V a Ts) (k : Nat) : Rw V (a.add k) (Ts.drop k) := by
  obtain ⟨h0, cs, E, fz, h1, h2⟩ := h
  unfold Addr.add
  split
  · rename_i hk; subst hk; exact ⟨h0, cs, E, fz, h1, by simpa using h2⟩
  · refine ⟨rfl, cs, E, fz, h1, fun i T e => ?_⟩
    rw [List.getElem?_drop] at e
    obtain ⟨c, h3, h4⟩ := h2 (k + i) T e
    exact ⟨c, by rw [← h3]; simp [Nat.add_assoc], h4⟩

theorem Rw.pre {V : View} {a : Addr} {Ts Us : List Ty} (h : Rw V a Ts) (hu : ∀ (i : Nat) (T : Ty), Us[i]? = some T → Ts[i]? = some T) : Rw V a Us := by
  obtain ⟨h0, cs, E, fz, h1, h2⟩ := h
  exact ⟨h0, cs, E, fz, h1, fun i T e => h2 i T (hu i T e)⟩

theorem Rw.take {V : View} {a : Addr} {Ts : List Ty} (h : Rw V a Ts) (k : Nat) : Rw V a (Ts.take k) :=
  h.pre fun i T e => by rw [List.getElem?_take] at e; split at e <;> first | exact e | cases e

theorem Rw.cell {V : View} {w : World} {a : Addr} {Ts : List Ty} (h : Rw V a Ts) (hh : Has w V) {i : Nat} {T : Ty} (e : Ts[i]? = some T) : ∃ c, w.cell? (a.add i) = some c ∧ T.p c V := by
  obtain ⟨h0, cs, E, fz, h1, h2⟩ := h
  obtain ⟨c, h3, h4⟩ := h2 i T e
  refine ⟨c, ?_, h4⟩
  have hb := hh _ _ h1
  unfold Addr.add
  split
  · rename_i hk; subst hk
    simp [World.cell?, hb, h0, show cs[a.off]? = some c from by simpa using h3]
  · simp [World.cell?, hb, h3]

/-- A pointer to such cells. -/
def PtrTo (Ts : List Ty) : Ty := ⟨fun v V => ∃ a, v = .pointer (some a) ∧ Rw V a Ts, fun _ _ _ hl ⟨a, h1, h2⟩ => ⟨a, h1, h2.le hl⟩⟩

/-- A struct or an array, cell by cell. -/
def Agg (Ts : List Ty) : Ty :=
  ⟨fun v V => ∃ cs, v = .agg cs ∧ cs.size = Ts.length ∧ ∀ (i : Nat) (T : Ty), Ts[i]? = some T → ∃ c, cs[i]? = some c ∧ T.p c V,
   fun _ _ _ hl ⟨cs, h1, h2, h3⟩ => ⟨cs, h1, h2, fun i T e => let ⟨c, h4, h5⟩ := h3 i T e; ⟨c, h4, T.mono _ _ _ hl h5⟩⟩⟩

/-- Several results. -/
def Tup (Ts : List Ty) : Ty :=
  ⟨fun v V => ∃ vs, v = .tuple vs ∧ vs.size = Ts.length ∧ ∀ (i : Nat) (T : Ty), Ts[i]? = some T → ∃ c, vs[i]? = some c ∧ T.p c V,
   fun _ _ _ hl ⟨cs, h1, h2, h3⟩ => ⟨cs, h1, h2, fun i T e => let ⟨c, h4, h5⟩ := h3 i T e; ⟨c, h4, T.mono _ _ _ hl h5⟩⟩⟩

/-- How values of a Lean type lie in cells. -/
class Enc (α : Type) where
  agg : Bool
  sz : Nat
  ty : α → List Ty
  len : ∀ x, (ty x).length = sz
  scal : ∀ x, ∀ T ∈ ty x, Scal T
  pos : 0 < sz
  one : agg = false → sz = 1

def Va {α : Type} [Enc α] (x : α) : Ty := match Enc.agg α with
  | true => Agg (Enc.ty x)
  | false => (Enc.ty x).headD anyTy

/-- A slice whose elements are xs. -/
def Sl {α : Type} [Enc α] (xs : List α) : Ty :=
  ⟨fun v V => ∃ a n cap, v = .slice a n cap ∧ n = xs.length ∧ n ≤ cap ∧ cap ≤ 9223372036854775807 ∧ (xs ≠ [] → ∃ a', a = some a' ∧ Rw V a' (xs.flatMap Enc.ty)),
   fun _ _ _ hl ⟨a, n, cap, h1, h2, h3, h4, h5⟩ => ⟨a, n, cap, h1, h2, h3, h4, fun hn => let ⟨a', h6, h7⟩ := h5 hn; ⟨a', h6, h7.le hl⟩⟩⟩

/-- A slice without spare capacity. -/
def SlF {α : Type} [Enc α] (xs : List α) : Ty :=
  ⟨fun v V => (∃ a, v = .slice a xs.length xs.length) ∧ (Sl xs).p v V, fun _ _ _ hl ⟨h1, h2⟩ => ⟨h1, (Sl xs).mono _ _ _ hl h2⟩⟩

theorem scal_sl {α : Type} [Enc α] (xs : List α) : Scal (Sl xs) := fun v V h => by obtain ⟨a, n, cap, rfl, _⟩ := h; rfl
theorem sl_slf {α : Type} [Enc α] {xs : List α} : ∀ v V, (SlF xs).p v V → (Sl xs).p v V := fun _ _ h => h.2
theorem scal_slf {α : Type} [Enc α] (xs : List α) : Scal (SlF xs) := fun v V h => scal_sl xs v V h.2
theorem scal_ptr (Ts : List Ty) : Scal (PtrTo Ts) := fun v V h => by obtain ⟨a, rfl, _⟩ := h; rfl

theorem scal_is_int {k : IntKind} {n : Int} : Scal (Is (.int k n)) := scal_is rfl
theorem scal_is_bool {b : Bool} : Scal (Is (.bool b)) := scal_is rfl
theorem scal_is_float {k : FloatKind} {b : Nat} : Scal (Is (.float k b)) := scal_is rfl
theorem scal_is_string {s : ByteArray} : Scal (Is (.string s)) := scal_is rfl

instance : Enc Int := ⟨false, 1, fun x => [Is (.int .i64 x)], fun _ => rfl, by intro x T h; simp at h; subst h; exact scal_is_int, by decide, fun _ => rfl⟩
instance : Enc Bool := ⟨false, 1, fun x => [Is (.bool x)], fun _ => rfl, by intro x T h; simp at h; subst h; exact scal_is_bool, by decide, fun _ => rfl⟩
instance : Enc UInt8 := ⟨false, 1, fun x => [Is (.int .u8 x.toNat)], fun _ => rfl, by intro x T h; simp at h; subst h; exact scal_is_int, by decide, fun _ => rfl⟩
instance : Enc ByteArray := ⟨false, 1, fun x => [Is (.string x)], fun _ => rfl, by intro x T h; simp at h; subst h; exact scal_is_string, by decide, fun _ => rfl⟩

/-- A float of 32 bits, by its bits. -/
structure F32 where
  bits : Nat
  deriving DecidableEq, Inhabited
instance : Enc F32 := ⟨false, 1, fun x => [Is (.float .f32 x.bits)], fun _ => rfl, by intro x T h; simp at h; subst h; exact scal_is_float, by decide, fun _ => rfl⟩

/-- The facts on a type of the program, by its number. -/
class SizeT (P : Program) (t : TypeId) (n : outParam Nat) : Prop where
  h : ∀ w, (sizeOf t).run P w = .ok n w
class AggT (P : Program) (t : TypeId) (b : outParam Bool) : Prop where
  h : ∀ w, (isAgg t).run P w = .ok b w
class UndT (P : Program) (t : TypeId) (d : outParam TypeDesc) : Prop where
  h : P.underlying t = some d
class ZeroT (P : Program) (t : TypeId) (v : outParam Value) : Prop where
  h : ∀ w, (zeroValue t).run P w = .ok v w
class InfoT (P : Program) (t : TypeId) (i : outParam TypeInfo) : Prop where
  h : P.info? t = some i

/-- Type number t lies as α does. -/
class GoT (P : Program) (t : TypeId) (α : Type) [Enc α] : Prop where
  agg : ∀ w, (isAgg t).run P w = .ok (Enc.agg α) w
  size : ∀ w, (sizeOf t).run P w = .ok (Enc.sz α) w

theorem goT_of {P : Program} {t : TypeId} {α : Type} [Enc α] {n : Nat} {b : Bool} [SizeT P t n] [AggT P t b] (h1 : b = Enc.agg α) (h2 : n = Enc.sz α) : GoT P t α :=
  ⟨fun w => by rw [← h1]; exact AggT.h w, fun w => by rw [← h2]; exact SizeT.h w⟩

section
variable {P : Program} {F : List (Nat × Ty)} {M : List Res} {o : Oper} {T : Ty}

/-- An operation that only computes. -/
theorem opT_pure {v : Array Value → Value} (h : ∀ t V w, TFo F o t V → Has w V → Mem M w V → (execOp (ev t) o).run P w = .ok (.value (v t)) w ∧ T.p (v t) V) : OpT P F M o T := by
  refine ⟨fun t w V hf hh hm => ?_⟩
  obtain ⟨h1, h2⟩ := h t V w hf hh hm
  unfold OpRuns
  rw [h1]
  exact ⟨V, Evo.refl hh, h2⟩

theorem opT_val (h : ∀ t V w, TFo F o t V → Has w V → Mem M w V → ∃ v, (execOp (ev t) o).run P w = .ok (.value v) w ∧ T.p v V) : OpT P F M o T := by
  refine ⟨fun t w V hf hh hm => ?_⟩
  obtain ⟨v, h1, h2⟩ := h t V w hf hh hm
  unfold OpRuns
  rw [h1]
  exact ⟨V, Evo.refl hh, h2⟩

theorem ev_const (t : Array Value) (v : Value) : ev t (.const v) = v := rfl

theorem t_move {x : Operand} (ho : o.op = .move x := by rfl) (hx : OT F x T := by first | exact ot_tmp rfl | exact ot_const | exact ot_func | exact ot_when rfl (by first | assumption | (simp_all; done)) | exact ot_when_and rfl (by first | assumption | (simp_all; done))) : OpT P F M o T :=
  opT_val fun t V _ hf _ _ => ⟨ev t x, by simp [execOp, ho], hx.h t V (hf _ (by simp [ho, Op.operands]))⟩
theorem t_assign {x : Operand} (ho : o.op = .assign x := by rfl) (hx : OT F x T := by first | exact ot_tmp rfl | exact ot_const | exact ot_func | exact ot_when rfl (by first | assumption | (simp_all; done)) | exact ot_when_and rfl (by first | assumption | (simp_all; done))) : OpT P F M o T :=
  opT_val fun t V _ hf _ _ => ⟨ev t x, by simp [execOp, ho], hx.h t V (hf _ (by simp [ho, Op.operands]))⟩

theorem t_pick_or {c y : Operand} {q r : Bool} (ho : o.op = .pick c (.const (.bool true)) y := by rfl) (hc : OT F c (Is (.bool q)) := by first | exact ot_tmp rfl | exact ot_const | exact ot_func | exact ot_when rfl (by first | assumption | (simp_all; done)) | exact ot_when_and rfl (by first | assumption | (simp_all; done))) (hy : OT F y (When (q = false) (Is (.bool r))) := by first | exact ot_tmp rfl | exact ot_const | exact ot_func | exact ot_when rfl (by first | assumption | (simp_all; done)) | exact ot_when_and rfl (by first | assumption | (simp_all; done))) : OpT P F M o (Is (.bool (q || r))) :=
  opT_val fun t V _ hf _ _ => by
    have h1 : ev t c = .bool q := hc.h t V (hf _ (by simp [ho, Op.operands]))
    have h2 := hy.h t V (hf _ (by simp [ho, Op.operands]))
    cases q
    · have h3 : ev t y = .bool r := h2.1 rfl
      exact ⟨.bool r, by simp [execOp, ho, h1, h3, asBool], by simp [Is]⟩
    · exact ⟨.bool true, by simp [execOp, ho, h1, asBool, ev_const], by simp [Is]⟩
theorem t_pick_and {c y : Operand} {q r : Bool} (ho : o.op = .pick c y (.const (.bool false)) := by rfl) (hc : OT F c (Is (.bool q)) := by first | exact ot_tmp rfl | exact ot_const | exact ot_func | exact ot_when rfl (by first | assumption | (simp_all; done)) | exact ot_when_and rfl (by first | assumption | (simp_all; done))) (hy : OT F y (When (q = true) (Is (.bool r))) := by first | exact ot_tmp rfl | exact ot_const | exact ot_func | exact ot_when rfl (by first | assumption | (simp_all; done)) | exact ot_when_and rfl (by first | assumption | (simp_all; done))) : OpT P F M o (Is (.bool (q && r))) :=
  opT_val fun t V _ hf _ _ => by
    have h1 : ev t c = .bool q := hc.h t V (hf _ (by simp [ho, Op.operands]))
    have h2 := hy.h t V (hf _ (by simp [ho, Op.operands]))
    cases q
    · exact ⟨.bool false, by simp [execOp, ho, h1, asBool, ev_const], by simp [Is]⟩
    · have h3 : ev t y = .bool r := h2.1 rfl
      exact ⟨.bool r, by simp [execOp, ho, h1, h3, asBool], by simp [Is]⟩

end
end Go.Rt
