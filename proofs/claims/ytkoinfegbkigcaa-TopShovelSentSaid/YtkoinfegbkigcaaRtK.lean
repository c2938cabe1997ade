/- Literals; slice expressions; strings that are ranged over; facts out of the types. -/
import Derived.Test.YtkoinfegbkigcaaRtJ
import Derived.Laws.RangeString
namespace Go.Rt

theorem va_cells {α : Type} [Enc α] {x : α} {v : Value} {V : View} (h : (Va x).p v V) : v.cells.size = Enc.sz α ∧ ∀ (i : Nat) (T : Ty), (Enc.ty x)[i]? = some T → ∃ c, v.cells[i]? = some c ∧ T.p c V := by
  cases ha : Enc.agg α with
  | true =>
    rw [va_agg ha] at h
    obtain ⟨cs, rfl, h2, h3⟩ := h
    exact ⟨by rw [← Enc.len x]; exact h2, h3⟩
  | false =>
    obtain ⟨T, hT, hV⟩ := va_one (x := x) ha
    rw [hV] at h
    have hone := Enc.scal x T (by rw [hT]; simp) v V h
    rw [cells_one hone]
    refine ⟨by rw [Enc.one ha]; rfl, fun i U e => ?_⟩
    rw [hT] at e
    cases i with
    | zero => simp at e; subst e; exact ⟨v, rfl, h⟩
    | succ i => simp at e

theorem fill_seq (size : Nat) : ∀ (vs : List Value) (k : Nat) (cells : Array Value), (∀ v ∈ vs, v.cells.size = size) → (k + vs.length) * size ≤ cells.size →
    ∃ r, Instr.fill (fun i => some (i * size, size)) cells ((vs.zipIdx k).map fun x => (x.2, x.1)) = some r ∧ r.toList = cells.toList.take (k * size) ++ vs.flatMap (·.cells.toList) ++ cells.toList.drop ((k + vs.length) * size)
  | [], k, cells, _, _ => ⟨cells, rfl, by simp⟩
  | v :: vs, k, cells, hv, h => by
    have hv0 := hv v (by simp)
    have hle : (k + 1 + vs.length) * size ≤ cells.size := by
      rw [List.length_cons] at h; rw [show k + 1 + vs.length = k + (vs.length + 1) from by omega]; exact h
    have hk1 : k * size + size ≤ cells.size := by
      have : (k + 1) * size ≤ (k + 1 + vs.length) * size := Nat.mul_le_mul_right _ (by omega)
      rw [Nat.succ_mul] at this; omega
    have hfold := fold_set (k * size) v.cells.toList 0 cells (by simp [hv0]; omega)
    have hzip : v.cells.zipIdx.foldl (fun cs (c, j) => cs.setIfInBounds (k * size + j) c) cells = (v.cells.toList.zipIdx 0).foldl (fun cs (c, j) => cs.setIfInBounds (k * size + j) c) cells := by
      rw [← Array.foldl_toList, Array.toList_zipIdx]
    obtain ⟨r, h1, h2⟩ := fill_seq size vs (k + 1) (v.cells.zipIdx.foldl (fun cs (c, j) => cs.setIfInBounds (k * size + j) c) cells) (fun u hu => hv u (by simp [hu])) (by
      have := congrArg List.length hfold
      rw [← hzip] at this
      simp only [Array.length_toList, List.length_append, List.length_take, List.length_drop, hv0] at this
      rw [this]; simp only [Nat.add_zero]; omega)
    refine ⟨r, ?_, ?_⟩
    · rw [List.zipIdx_cons, List.map_cons]
      unfold Instr.fill
      simp only [hv0, ne_eq]
      rw [if_neg (by simp; omega)]
      exact h1
    · rw [h2, hzip, hfold]
      simp only [Nat.add_zero, Array.length_toList, hv0, List.flatMap_cons, List.length_cons]
      have l1 : (cells.toList.take (k * size)).length = k * size := by simp; omega
      have l2 : (cells.toList.take (k * size) ++ v.cells.toList).length = (k + 1) * size := by rw [List.length_append, l1, Array.length_toList, hv0, Nat.succ_mul]
      have e1 : (cells.toList.take (k * size) ++ v.cells.toList ++ cells.toList.drop (k * size + size)).take ((k + 1) * size) = cells.toList.take (k * size) ++ v.cells.toList := by
        rw [← l2]; exact List.take_left
      have e2 : (cells.toList.take (k * size) ++ v.cells.toList ++ cells.toList.drop (k * size + size)).drop ((k + 1 + vs.length) * size) = cells.toList.drop ((k + (vs.length + 1)) * size) := by
        rw [show (k + 1 + vs.length) * size = (k + 1) * size + vs.length * size from by rw [Nat.add_mul], ← l2, List.drop_length_add_append, List.drop_drop]
        congr 1
        rw [Nat.add_mul, Nat.succ_mul]; omega
      rw [e1, e2]
      simp

/-- The elements of a literal, in their places. -/
inductive OPs {α : Type} [Enc α] (F : List (Nat × Ty)) : List (Nat × Operand) → Nat → List α → Prop
  | nil {i : Nat} : OPs F [] i []
  | cons {i : Nat} {x : Operand} {ps : List (Nat × Operand)} {a : α} {as : List α} : OT F x (Va a) → OPs F ps (i + 1) as → OPs F ((i, x) :: ps) i (a :: as)

theorem OPs.vals {α : Type} [Enc α] {F : List (Nat × Ty)} {t : Array Value} {V : View} : ∀ {ps : List (Nat × Operand)} {i : Nat} {xs : List α}, OPs F ps i xs → (∀ p ∈ ps, TFx F p.2 t V) →
    ∃ vs : List Value, ps.map (fun p => (p.1, ev t p.2)) = (vs.zipIdx i).map (fun x => (x.2, x.1)) ∧ vs.length = xs.length ∧ (∀ v ∈ vs, v.cells.size = Enc.sz α) ∧ (∀ v ∈ vs, ∀ c ∈ v.cells.toList, True) ∧
      ∀ (j : Nat) (T : Ty), (xs.flatMap Enc.ty)[j]? = some T → ∃ c, (vs.flatMap (·.cells.toList))[j]? = some c ∧ T.p c V
  | _, _, _, .nil, _ => ⟨[], rfl, rfl, by simp, by simp, fun j T e => by simp at e⟩
  | _, _, _, .cons (i := j) (x := x) (a := a) hx hrest, hf => by
    obtain ⟨vs, h1, h2, h3, h4, h5⟩ := OPs.vals (t := t) (V := V) hrest (fun p hp => hf p (by simp [hp]))
    have hv := va_cells (hx.h t V (hf (j, x) (by simp)))
    refine ⟨ev t x :: vs, by simp [List.zipIdx_cons, h1], by simp [h2], ?_, by simp, ?_⟩
    · intro v hv'
      rcases List.mem_cons.1 hv' with rfl | hm
      · exact hv.1
      · exact h3 v hm
    · intro k T e
      rw [List.flatMap_cons] at e ⊢
      have l1 : (Enc.ty a).length = Enc.sz α := Enc.len a
      have l2 : (ev t x).cells.toList.length = Enc.sz α := by simp [hv.1]
      by_cases hk : k < Enc.sz α
      · rw [List.getElem?_append_left (by omega)] at e ⊢
        obtain ⟨c, e1, e2⟩ := hv.2 k T e
        exact ⟨c, by simpa using e1, e2⟩
      · rw [List.getElem?_append_right (by omega), l1] at e
        rw [List.getElem?_append_right (by omega), l2]
        exact h5 _ T e

section
variable {P : Program} {F : List (Nat × Ty)} {M : List Res} {o : Oper} {T : Ty}

theorem t_buildSlice {α : Type} [Enc α] {xs : List α} {ps : List (Nat × Operand)} {t e : TypeId} {n sz by_ : Nat} (ho : o.op = .buildSlice t n ps.toArray := by rfl)
    (hp : OPs F ps 0 xs := by (repeat (first | exact OPs.nil | apply OPs.cons (by first | exact ot_tmp rfl | exact ot_const | exact ot_when rfl (by first | assumption | (simp_all; done))))); first | done | fail)
    (u : UndT P t (.slice e) := by infer_instance) (el : ElemT P e sz by_ := by infer_instance) (hsz : sz = Enc.sz α := by rfl) (hn : xs.length = n := by rfl) (hsm : n * Enc.sz α ≤ 16777216 := by decide) : OpT P F M o (SlF xs) := by
  subst hsz
  subst hn
  obtain ⟨inf, z, hi, hz, hsize, hby, hzs⟩ := el.h
  refine ⟨fun tm w V hf hh hm => ?_⟩
  obtain ⟨vs, h1, h2, h3, _, h5⟩ := hp.vals (t := tm) (V := V) (fun p hp => hf p.2 (by simp only [ho, Op.operands]; simp; exact ⟨_, hp⟩))
  have hpos := Enc.pos (α := α)
  let zeros : Array Value := (Array.range (xs.length * Enc.sz α)).map ((if xs.length * Enc.sz α = 0 then #[] else z.cells)[· % (if xs.length * Enc.sz α = 0 then #[] else z.cells).size]!)
  have hzl : zeros.size = xs.length * Enc.sz α := by simp [zeros]
  obtain ⟨r, hr1, hr2⟩ := fill_seq (Enc.sz α) vs 0 zeros h3 (by rw [hzl, h2]; simp)
  have hr : r.toList = vs.flatMap (·.cells.toList) := by
    rw [hr2]
    simp only [Nat.zero_mul, List.take_zero, List.nil_append, Nat.zero_add, h2]
    rw [List.drop_of_length_le (by simp [hzl]), List.append_nil]
  have hlen : (vs.flatMap (·.cells.toList)).length = xs.length * Enc.sz α := by
    have : ∀ (l : List Value), (∀ v ∈ l, v.cells.size = Enc.sz α) → (l.flatMap (·.cells.toList)).length = l.length * Enc.sz α := by
      intro l
      induction l with
      | nil => intro _; simp
      | cons a l ih => intro h; simp [List.flatMap_cons, ih (fun v hv => h v (by simp [hv])), h a (by simp), Nat.succ_mul, Nat.add_comm]
    rw [this vs h3, h2]
  unfold OpRuns
  have hrun : (execOp (ev tm) o).run P w = .ok (.value (.slice (some ⟨w.heap.size, 0, none⟩) xs.length xs.length)) { w with heap := w.heap.push (.cells r e) } := by
    have hps : (ps.toArray.map fun x => (x.1, ev tm x.2)).toList = (vs.zipIdx 0).map fun x => (x.2, x.1) := by simpa using h1
    simp only [execOp, ho, Instr.buildSlice, Sem.run_bind, run_underlying u.h, Result.andThen_ok, sizeOf, typeInfo]
    simp only [program, Sem.run, hi, hsize, Result.andThen_ok, Sem.run_pure]
    rw [if_neg (by omega)]
    by_cases h0 : xs.length * Enc.sz α = 0
    · rw [if_pos h0]
      have h7 := hr1
      simp only [zeros, if_pos h0] at h7
      simp only [Sem.run_bind, Sem.run_pure, Result.andThen_ok, hps, h7]
      simp [newRow, newObj, Sem.run]
    · rw [if_neg h0]
      have h7 := hr1
      simp only [zeros, if_neg h0] at h7
      have h8 : (zeroValue e).run P w = .ok z w := by simp [zeroValue, typeInfo, hi, hz]
      simp only [Sem.run_bind, Sem.run_pure, Result.andThen_ok, h8, hps, h7]
      simp [newRow, newObj, Sem.run]
  rw [hrun]
  have hrow : Rw (fun k => if k = w.heap.size then some (.cells r e) else V k) ⟨w.heap.size, 0, none⟩ (xs.flatMap Enc.ty) := rw_push hh fun i T e' => by
    obtain ⟨c, e1, e2⟩ := h5 i T e'
    refine ⟨c, ?_, e2⟩
    rw [← hr] at e1
    simpa using e1
  by_cases hx63 : xs.length ≤ 9223372036854775807
  · exact ⟨_, evo_push hh _, ⟨_, rfl⟩, _, _, _, rfl, rfl, Nat.le_refl _, hx63, fun _ => ⟨_, rfl, hrow⟩⟩
  · exfalso
    have : xs.length ≤ xs.length * Enc.sz α := Nat.le_mul_of_pos_right _ hpos
    omega

/-- A constant nil slice. -/
theorem ot_nil {α : Type} [Enc α] {F : List (Nat × Ty)} : OT F (.const (.slice none 0 0)) (SlF ([] : List α)) :=
  ⟨fun _ _ _ => ⟨⟨none, rfl⟩, none, 0, 0, rfl, rfl, Nat.le_refl _, by omega, fun h => absurd rfl h⟩⟩

/-- append onto a slice without spare room: a new slice (or the same, if nothing is appended). -/
theorem t_append_full {α : Type} [Enc α] {xs ys : List α} {s x : Operand} {t e : TypeId} {sz by_ : Nat} (ho : o.op = .call { callee := .builtin .append, args := #[s, x], argTypes := #[t, t] } := by rfl)
    (hs : OT F s (SlF xs) := by first | exact ot_tmp rfl | exact ot_nil) (hx : OT F x (Sl ys) := by first | exact ot_tmp rfl | exact ot_sub (ot_tmp rfl) sl_slf)
    (u : UndT P t (.slice e) := by infer_instance) (el : ElemT P e sz by_ := by infer_instance) (hsz : sz = Enc.sz α := by rfl)
    (hb : (xs.length + ys.length) * by_ ≤ 140737488355328 := by first | omega | (simp; omega)) (h63 : xs.length + ys.length ≤ 9223372036854775807 := by first | omega | (simp; omega)) : OpT P F M o (Sl (xs ++ ys)) := by
  subst hsz
  obtain ⟨inf, z, hi, hz, hsize, hby, hzs⟩ := el.h
  subst hby
  refine ⟨fun tm w V hf hh hm => ?_⟩
  obtain ⟨⟨a0, hs1⟩, hs2⟩ := hs.h tm V (hf _ (by simp [ho, Op.operands, Call.operands]))
  have h2 := hx.h tm V (hf _ (by simp [ho, Op.operands, Call.operands]))
  obtain ⟨a, m, c, h3, hm0, _⟩ := id h2
  rw [h3] at h2
  rw [hs1] at hs2
  obtain ⟨news, n1, n2, n3, n4, n5, n6⟩ := sl_cells h2 hh
  obtain ⟨olds, o1, _, o3, o4, o5, o6⟩ := sl_cells hs2 hh
  subst n2
  have hpos := Enc.pos (α := α)
  unfold OpRuns
  have hexec : ∀ v w', (Builtin.append_ #[t, t] o.type #[.slice a0 xs.length xs.length, .slice a ys.length c]).run P w = .ok v w' → (execOp (ev tm) o).run P w = .ok (.value v) w' := by
    intro v w' hrun
    simp only [execOp, ho, resolve, invoke, builtin, Sem.run_bind, Sem.run_pure, Result.andThen_ok, List.map_toArray, List.map_cons, List.map_nil, hs1, h3, hrun]
  by_cases hy0 : ys.length = 0
  · have hys : ys = [] := List.eq_nil_of_length_eq_zero hy0
    subst hys
    have hrun : (Builtin.append_ #[t, t] o.type #[.slice a0 xs.length xs.length, .slice a 0 c]).run P w = .ok (.slice a0 xs.length xs.length) w := by
      cases a0 with
      | none => cases a <;> simp [Builtin.append_, run_underlying u.h, sizeOf, typeInfo, hi, Builtin.lenOf, Builtin.firstCells, loadCells, loadCellsFrom]
      | some g => cases a <;> simp [Builtin.append_, run_underlying u.h, sizeOf, typeInfo, hi, Builtin.lenOf, Builtin.firstCells, loadCells, loadCellsFrom, storeCells]
    rw [hexec _ _ hrun]
    exact ⟨V, Evo.refl hh, by simpa using hs2⟩
  · obtain ⟨a', rfl⟩ : ∃ a', a = some a' := by
      cases a with
      | none => exact absurd (n4 rfl) hy0
      | some a' => exact ⟨a', rfl⟩
    have hxl : (xs.flatMap Enc.ty).length = xs.length * Enc.sz α := length_flatMap xs
    have fin : ∀ (cs : Array Value) (cap : Nat), xs.length + ys.length ≤ cap → cap ≤ 9223372036854775807 → (∀ i : Nat, i < (xs.length + ys.length) * Enc.sz α → cs[i]? = (olds ++ news)[i]?) →
        ∃ V', Evo [] w V { w.drew with heap := w.heap.push (.cells cs e) } V' ∧ (Sl (xs ++ ys)).p (.slice (some ⟨w.heap.size, 0, none⟩) (xs.length + ys.length) cap) V' := by
      intro cs cap hc1 hc2 hcs
      have hev : Evo [] w V { w.drew with heap := w.heap.push (.cells cs e) } (fun k => if k = w.heap.size then some (.cells cs e) else V k) := by
        have := evo_push hh (.cells cs e)
        exact ⟨this.os, this.tape, this.output, this.size, this.block, this.view, this.has⟩
      refine ⟨_, hev, _, _, _, rfl, by simp, hc1, hc2, fun _ => ⟨_, rfl, rw_push hh fun i T e' => ?_⟩⟩
      have hil : i < (xs.length + ys.length) * Enc.sz α := by
        have := (List.getElem?_eq_some_iff.1 e').1
        rw [length_flatMap, List.length_append] at this; exact this
      rw [hcs i hil]
      rw [List.flatMap_append] at e'
      by_cases hi' : i < xs.length * Enc.sz α
      · rw [List.getElem?_append_left (by omega)] at e'
        obtain ⟨c', e1, e2⟩ := o6 i T e'
        exact ⟨c', by rw [List.getElem?_append_left (by omega)]; exact e1, e2⟩
      · rw [List.getElem?_append_right (by omega), hxl] at e'
        obtain ⟨c', e1, e2⟩ := n6 _ T e'
        exact ⟨c', by rw [List.getElem?_append_right (by omega), o1]; exact e1, e2⟩
    have hcells : ∀ (cap : Nat) (i : Nat), i < (xs.length + ys.length) * Enc.sz α → (olds.toArray ++ news.toArray ++ Builtin.zeroCells z.cells (cap - (xs.length + ys.length)))[i]? = (olds ++ news)[i]? := by
      intro cap i hi'
      rw [Array.getElem?_append_left (by simp only [Array.size_append, List.size_toArray, o1, n1, ← Nat.add_mul]; exact hi')]
      simp
    cases a0 with
    | none =>
      have hx0 := o4 rfl
      have hxs : xs = [] := List.eq_nil_of_length_eq_zero hx0
      subst hxs
      have ho0 : olds = [] := List.eq_nil_of_length_eq_zero (by simpa using o1)
      subst ho0
      have hrun := run_append_nil (P := P) w t o.type e inf z u.h hi hz a' ys.length c news (by rw [hsize]; exact n1) (n3 a' rfl) (by omega) (by simp at h63; omega) (by simp at hb; omega)
      rw [hexec _ _ (by simpa using hrun)]
      have hge := grownCap_ge w ys.length 0 e
      obtain ⟨V', g1, g2⟩ := fin (news.toArray ++ Builtin.zeroCells z.cells (grownCap w ys.length 0 e - ys.length)) _ (by simpa using hge) (grownCap_bound w _ _ e (by simp at h63; omega)) (fun i hi' => by
        have := hcells (grownCap w ys.length 0 e) i hi'
        simpa using this)
      exact ⟨V', g1, by simpa using g2⟩
    | some g =>
      have hrun := run_append_grow (P := P) w t o.type e inf z u.h hi hz g xs.length xs.length olds (by rw [hsize]; exact o1) (o3 g rfl) a' ys.length c news (by rw [hsize]; exact n1) (n3 a' rfl) (by omega) (by omega) (growslice_fits (by omega) hb)
      rw [hexec _ _ hrun]
      have hge := grownCap_ge w (xs.length + ys.length) xs.length e
      exact fin _ _ hge (grownCap_bound w _ _ e h63) (fun i hi' => hcells _ i hi')

end

section
variable {P : Program} {C : Ctx} {b : Base} {n : Nat} {ds : List Deferred} {k : List Item} {F : List (Nat × Ty)} {M : List Res} {R : Value → World → Prop} {ops l : List Oper} {i : Nat} {todo : List Item}

/-- A fact out of a slot's type. -/
theorem g_fact {T : Ty} {s : Nat} {φ : Prop} (hs : look F s = some T) (hT : ∀ v V, T.p v V → φ) (h : φ → G P C b n ds todo F M R) : G P C b n ds todo F M R :=
  ⟨fun t w V h1 h2 h3 h4 h5 => (h (hT _ _ (h2 s T hs))).h t w V h1 h2 h3 h4 h5⟩

theorem g_eqM {M' : List Res} (e : M' = M) (h : G P C b n ds todo F M' R) : G P C b n ds todo F M R := e ▸ h
theorem gl_eqM {M' : List Res} (e : M' = M) (h : GL P C b n ds ops l i k F M' R) : GL P C b n ds ops l i k F M R := e ▸ h

theorem take_snoc {α : Type} [Inhabited α] {xs : List α} {k : Nat} (h : k < xs.length) : xs.take (k + 1) = xs.take k ++ [xs.getD k default] := by
  rw [List.take_add_one]; simp [List.getD, List.getElem?_eq_getElem h]
theorem map_take_snoc {α β : Type} [Inhabited α] {xs : List α} {g : α → β} {k : Nat} (h : k < xs.length) : (xs.take (k + 1)).map g = (xs.take k).map g ++ [g (xs.getD k default)] := by
  rw [take_snoc h]; simp
theorem drop_cons {α : Type} [Inhabited α] {xs : List α} {k : Nat} (h : k < xs.length) : xs.drop k = xs.getD k default :: xs.drop (k + 1) := by
  rw [List.drop_eq_getElem_cons h]; simp [List.getD, h]
theorem getD_mem {α : Type} [Inhabited α] {xs : List α} {k : Nat} (h : k < xs.length) : xs.getD k default ∈ xs := by
  simp [List.getD, List.getElem?_eq_getElem h]

theorem sl_len {α : Type} [Enc α] {xs : List α} : ∀ v V, (Sl xs).p v V → xs.length ≤ 9223372036854775807 := fun _ _ ⟨_, _, _, _, h2, h3, h4, _⟩ => by omega
end

end Go.Rt
