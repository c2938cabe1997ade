/- Structs and arrays as values; results; slices of slices. -/
import Derived.Test.YtkoinfegbkigcaaRtK
namespace Go.Rt

class PlaceT (P : Program) (t : TypeId) (zs : outParam (List Value)) (pl : outParam (Nat → Option (Nat × Nat))) : Prop where
  h : ∀ parts w cs, Instr.fill pl zs.toArray parts.toList = some cs → (Instr.build t parts).run P w = .ok (.agg cs) w

/-- A value's cells. -/
structure OCells (F : List (Nat × Ty)) (x : Operand) (Us : List Ty) : Prop where
  h : ∀ t V, TFx F x t V → (ev t x).cells.size = Us.length ∧ ∀ (i : Nat) (T : Ty), Us[i]? = some T → ∃ c, (ev t x).cells[i]? = some c ∧ T.p c V

theorem oc_one {F : List (Nat × Ty)} {x : Operand} {T : Ty} (h : OT F x T) (hs : Scal T) : OCells F x [T] := .mk fun t V hf => by
  have h1 := h.h t V hf
  rw [cells_one (hs _ _ h1)]
  refine ⟨rfl, fun i U e => ?_⟩
  match i, e with
  | 0, e => cases e; exact ⟨_, rfl, h1⟩
theorem oc_agg {F : List (Nat × Ty)} {x : Operand} {Us : List Ty} (h : OT F x (Agg Us)) : OCells F x Us := .mk fun t V hf => by
  obtain ⟨cs, h1, h2, h3⟩ := h.h t V hf
  rw [h1]
  exact ⟨h2, fun i T e => h3 i T e⟩
theorem oc_va {α : Type} [Enc α] {a : α} {F : List (Nat × Ty)} {x : Operand} (h : OT F x (Va a)) : OCells F x (Enc.ty a) := .mk fun t V hf => by
  have := va_cells (h.h t V hf)
  rw [Enc.len]; exact this

theorem scal_fn {P : Program} {ι : Type} {A : ι → List Ty} {B : ι → Ty} : Scal (FnV P A B) := fun v V h => by obtain ⟨f, a, b, rfl, _⟩ := h; rfl

/-- Parts set into the cells of a zero value. -/
inductive Fills (F : List (Nat × Ty)) (pl : Nat → Option (Nat × Nat)) : List (Nat × Operand) → List Ty → List Ty → Prop
  | nil {Ts : List Ty} : Fills F pl [] Ts Ts
  | cons {i off n : Nat} {x : Operand} {ps : List (Nat × Operand)} {Us Ts Ts' : List Ty} : pl i = some (off, n) → OCells F x Us → Us.length = n → off + n ≤ Ts.length → Fills F pl ps (Ts.take off ++ Us ++ Ts.drop (off + n)) Ts' → Fills F pl ((i, x) :: ps) Ts Ts'

theorem Fills.run {F : List (Nat × Ty)} {pl : Nat → Option (Nat × Nat)} {t : Array Value} {V : View} {ps : List (Nat × Operand)} {Ts Ts' : List Ty} (h : Fills F pl ps Ts Ts') (hf : ∀ p ∈ ps, TFx F p.2 t V) :
    ∀ cs : Array Value, cs.size = Ts.length → (∀ (i : Nat) (T : Ty), Ts[i]? = some T → ∃ c, cs[i]? = some c ∧ T.p c V) →
      ∃ cs' : Array Value, Instr.fill pl cs (ps.map fun p => (p.1, ev t p.2)) = some cs' ∧ cs'.size = Ts'.length ∧ ∀ (i : Nat) (T : Ty), Ts'[i]? = some T → ∃ c, cs'[i]? = some c ∧ T.p c V := by
  induction h with
  | nil => intro cs h1 h2; exact ⟨cs, rfl, h1, h2⟩
  | @cons i off n x ps Us Ts Ts' hp hx hn hle hrest ih =>
    intro cs h1 h2
    obtain ⟨c1, c2⟩ := hx.h t V (hf (i, x) (by simp))
    have hzip : (ev t x).cells.zipIdx.foldl (fun cs (c, j) => cs.setIfInBounds (off + j) c) cs = ((ev t x).cells.toList.zipIdx 0).foldl (fun cs (c, j) => cs.setIfInBounds (off + j) c) cs := by
      rw [← Array.foldl_toList, Array.toList_zipIdx]
    have hfold := fold_set off (ev t x).cells.toList 0 cs (by simp; omega)
    rw [← hzip] at hfold
    simp only [Nat.add_zero, Array.length_toList, c1] at hfold
    have l1 : (cs.toList.take off).length = off := by simp; omega
    have l2 : (Ts.take off).length = off := by simp; omega
    have l3 : (ev t x).cells.toList.length = Us.length := by simp [c1]
    obtain ⟨cs', g1, g2, g3⟩ := ih (fun p hp => hf p (by simp [hp])) ((ev t x).cells.zipIdx.foldl (fun cs (c, j) => cs.setIfInBounds (off + j) c) cs) (by
        have := congrArg List.length hfold
        simp only [Array.length_toList, List.length_append, List.length_take, List.length_drop, c1] at this
        simp only [List.length_append, List.length_take, List.length_drop]
        omega) (by
        intro k T e
        rw [List.append_assoc] at e
        rw [← Array.getElem?_toList, hfold, List.append_assoc]
        by_cases hk : k < off
        · rw [List.getElem?_append_left (by omega), List.getElem?_take, if_pos hk] at e
          obtain ⟨c, e1, e2⟩ := h2 k T e
          exact ⟨c, by rw [List.getElem?_append_left (by omega), List.getElem?_take, if_pos hk]; simpa using e1, e2⟩
        · rw [List.getElem?_append_right (by omega), l2] at e
          by_cases hj : k - off < Us.length
          · rw [List.getElem?_append_left hj] at e
            obtain ⟨c, e1, e2⟩ := c2 _ T e
            exact ⟨c, by rw [List.getElem?_append_right (by omega), l1, List.getElem?_append_left (by omega)]; simpa using e1, e2⟩
          · rw [List.getElem?_append_right (by omega), List.getElem?_drop] at e
            obtain ⟨c, e1, e2⟩ := h2 _ T e
            refine ⟨c, ?_, e2⟩
            rw [List.getElem?_append_right (by omega), l1, List.getElem?_append_right (by omega), l3, List.getElem?_drop]
            rw [← e1, Array.getElem?_toList, hn])
    refine ⟨cs', ?_, g2, g3⟩
    simp only [List.map_cons, Instr.fill, hp]
    rw [if_neg (by simp; omega)]
    exact g1

section
variable {P : Program} {F : List (Nat × Ty)} {M : List Res} {o : Oper} {T : Ty}

theorem t_build {t : TypeId} {ps : List (Nat × Operand)} {zs : List Value} {pl : Nat → Option (Nat × Nat)} {Ts Us : List Ty} (ho : o.op = .build t ps.toArray := by rfl) (g : PlaceT P t zs pl := by infer_instance)
    (hF : Fills F pl ps (zs.map Is) Ts := by (repeat (first
        | exact Fills.nil
        | apply Fills.cons rfl (by first
            | exact oc_one (ot_sub (ot_tmp rfl) sl_slf) (scal_sl _)
            | exact oc_agg (ot_tmp rfl)
            | exact oc_one (by first | exact ot_tmp rfl | exact ot_const | exact ot_func) (by first | exact scal_is rfl | exact scal_sl _ | exact scal_ptr _ | exact scal_fn)
            | exact oc_va (ot_tmp rfl)) (by rfl) (Nat.le_of_ble_eq_true rfl))); first | done | fail) (hU : Ts = Us := by first | (simp only [Value.cells, List.toList_toArray, List.map_cons, List.map_nil, List.take_succ_cons, List.take_zero, List.drop_succ_cons, List.drop_zero, List.nil_append, List.cons_append, List.append_nil, List.length_cons, List.length_nil, Nat.zero_add, Nat.reduceAdd, List.set_cons_zero, List.set_cons_succ, List.append_assoc]; exact rfl) | exact rfl) : OpT P F M o (Agg Us) :=
  opT_val fun t' V w hf _ _ => by
    subst hU
    obtain ⟨cs', h1, h2, h3⟩ := hF.run (t := t') (V := V) (fun p hp => hf p.2 (by simp only [ho, Op.operands]; simp; exact ⟨_, hp⟩)) zs.toArray (by simp) (by
      intro i T e
      rw [List.getElem?_map] at e
      cases hz : zs[i]? with
      | none => rw [hz] at e; cases e
      | some z => rw [hz] at e; cases e; exact ⟨z, by simpa using hz, rfl⟩)
    refine ⟨.agg cs', ?_, cs', rfl, h2, h3⟩
    have := g.h (ps.map fun p => (p.1, ev t' p.2)).toArray w cs' (by simpa using h1)
    simp [execOp, ho, this]

theorem t_loadV {α : Type} [Enc α] {x : α} {p : Operand} {t : TypeId} (ho : o.op = .load t p := by rfl) (hx : OT F p (PtrTo (Enc.ty x)) := by first | exact ot_tmp rfl | exact ot_when rfl (by first | assumption | (simp_all; done))) (g : GoT P t α := by infer_instance) : OpT P F M o (Va x) :=
  t_load (Ts := []) ho (ot_sub hx fun v V h => by simpa using h)

end

/-- The results, one by one. -/
def rvS (t : Array Value) : ResultVar → Sem Value
  | .tmp i => pure (t.getD i undef)
  | .cell a ty => do loadVar ty (← asAddr (t.getD a undef))

structure RV (P : Program) (F : List (Nat × Ty)) (M : List Res) (r : ResultVar) (T : Ty) : Prop where
  h : ∀ t w V, TF F t V → Has w V → Mem M w V → ∃ v, (rvS t r).run P w = .ok v w ∧ T.p v V

section
variable {P : Program} {F : List (Nat × Ty)} {M : List Res} {T : Ty} {fn : Func}

theorem rv_tmp {i : Nat} (h : look F i = some T) : RV P F M (.tmp i) T := .mk fun _ _ _ hf _ _ => ⟨_, rfl, hf i T h⟩
theorem rv_agg {i : Nat} {ty : TypeId} {n : Nat} {Ts : List Ty} (h : look F i = some (PtrTo Ts)) (g : AggT P ty true := by infer_instance) (s : SizeT P ty n := by infer_instance) (hn : Ts.length = n := by rfl) : RV P F M (.cell i ty) (Agg Ts) := .mk fun t w V hf hh _ => by
  obtain ⟨a, h1, h2⟩ := hf i _ h
  obtain ⟨cs, h3, h4, h5⟩ := h2.load (P := P) hh n (by omega)
  refine ⟨.agg cs.toArray, by simp [rvS, h1, asAddr, loadVar, g.h w, s.h w, h4], cs.toArray, rfl, by simp [h3, hn], ?_⟩
  intro i T e
  rw [List.take_of_length_le (by omega)] at h5
  simpa using h5 i T e
theorem rv_va {α : Type} [Enc α] {x : α} {i : Nat} {ty : TypeId} {n : Nat} (h : look F i = some (PtrTo (Enc.ty x))) (ha : Enc.agg α = true := by rfl) (g : AggT P ty true := by infer_instance) (s : SizeT P ty n := by infer_instance) (hn : Enc.sz α = n := by rfl) : RV P F M (.cell i ty) (Va x) := by
  rw [va_agg ha]; exact rv_agg h g s (by rw [Enc.len, hn])

theorem run_results_one {r : ResultVar} (hr : fn.results = #[r]) (t : Array Value) (w : World) : (results fn t).run P w = (rvS t r).run P w := by
  unfold results; rw [hr]
  change (do let vs ← Array.mapM (rvS t) #[r]; pure (if h : vs.size = 1 then vs[0] else .tuple vs) : Sem Value).run P w = _
  simp
theorem run_results_two {r s : ResultVar} (hr : fn.results = #[r, s]) (t : Array Value) (w : World) : (results fn t).run P w = ((rvS t r).run P w).andThen fun v w => ((rvS t s).run P w).andThen fun u w => .ok (.tuple #[v, u]) w := by
  unfold results; rw [hr]
  change (do let vs ← Array.mapM (rvS t) #[r, s]; pure (if h : vs.size = 1 then vs[0] else .tuple vs) : Sem Value).run P w = _
  simp [Sem.run_bind]
theorem run_results_three {r s u : ResultVar} (hr : fn.results = #[r, s, u]) (t : Array Value) (w : World) : (results fn t).run P w = ((rvS t r).run P w).andThen fun v w => ((rvS t s).run P w).andThen fun x w => ((rvS t u).run P w).andThen fun y w => .ok (.tuple #[v, x, y]) w := by
  unfold results; rw [hr]
  change (do let vs ← Array.mapM (rvS t) #[r, s, u]; pure (if h : vs.size = 1 then vs[0] else .tuple vs) : Sem Value).run P w = _
  simp [Sem.run_bind]

theorem res_one {r : ResultVar} (hr : fn.results = #[r]) (h : RV P F M r T) : ResT P fn F M T := .mk fun t w V hf hh hm => by
  obtain ⟨v, h1, h2⟩ := h.h t w V hf hh hm
  exact ⟨v, by rw [run_results_one hr, h1], h2⟩
theorem res_two {r s : ResultVar} {A B : Ty} (hr : fn.results = #[r, s]) (h : RV P F M r A) (h' : RV P F M s B) : ResT P fn F M (Tup [A, B]) := .mk fun t w V hf hh hm => by
  obtain ⟨v, h1, h2⟩ := h.h t w V hf hh hm
  obtain ⟨v', h1', h2'⟩ := h'.h t w V hf hh hm
  refine ⟨.tuple #[v, v'], by rw [run_results_two hr, h1]; simp [h1'], _, rfl, rfl, fun k T e => ?_⟩
  match k, e with
  | 0, e => cases e; exact ⟨_, rfl, h2⟩
  | 1, e => cases e; exact ⟨_, rfl, h2'⟩
theorem res_three {r s u : ResultVar} {A B D : Ty} (hr : fn.results = #[r, s, u]) (h : RV P F M r A) (h' : RV P F M s B) (h'' : RV P F M u D) : ResT P fn F M (Tup [A, B, D]) := .mk fun t w V hf hh hm => by
  obtain ⟨v, h1, h2⟩ := h.h t w V hf hh hm
  obtain ⟨v', h1', h2'⟩ := h'.h t w V hf hh hm
  obtain ⟨v'', h1'', h2''⟩ := h''.h t w V hf hh hm
  refine ⟨.tuple #[v, v', v''], by rw [run_results_three hr, h1]; simp [h1', h1''], _, rfl, rfl, fun k T e => ?_⟩
  match k, e with
  | 0, e => cases e; exact ⟨_, rfl, h2⟩
  | 1, e => cases e; exact ⟨_, rfl, h2'⟩
  | 2, e => cases e; exact ⟨_, rfl, h2''⟩
end

/-- Spans, readings, packets, runs. -/
structure Span where
  lo : Int
  hi : Int
  deriving DecidableEq, Inhabited
structure Reading where
  n : Int
  known : Bool
  deriving DecidableEq, Inhabited
structure Packet where
  src : Int
  ctr : Int
  a : F32
  b : F32
  c : F32
  deriving DecidableEq, Inhabited
structure Run where
  name : ByteArray
  first : Int
  xs : List F32
  hs : List Span

instance : Enc Span := ⟨true, 2, fun x => [Is (.int .i64 x.lo), Is (.int .i64 x.hi)], fun _ => rfl, by intro x T h; simp at h; rcases h with rfl | rfl <;> exact scal_is rfl, by decide, by decide⟩
instance : Enc Reading := ⟨true, 2, fun x => [Is (.int .i64 x.n), Is (.bool x.known)], fun _ => rfl, by intro x T h; simp at h; rcases h with rfl | rfl <;> exact scal_is rfl, by decide, by decide⟩
instance : Enc Packet := ⟨true, 5, fun x => [Is (.int .i64 x.src), Is (.int .i64 x.ctr), Is (.float .f32 x.a.bits), Is (.float .f32 x.b.bits), Is (.float .f32 x.c.bits)], fun _ => rfl,
  by intro x T h; simp at h; rcases h with rfl | rfl | rfl | rfl | rfl <;> exact scal_is rfl, by decide, by decide⟩
instance : Enc Run := ⟨true, 4, fun x => [Is (.string x.name), Is (.int .i64 x.first), Sl x.xs, Sl x.hs], fun _ => rfl,
  by intro x T h; simp at h; rcases h with rfl | rfl | rfl | rfl <;> first | exact scal_is rfl | exact scal_sl _, by decide, by decide⟩
instance : Inhabited Run := ⟨⟨.empty, 0, [], []⟩⟩

end Go.Rt
