/- Rows that turn: their elements read and written; calls that hand over resources. -/
import Derived.Test.YtkoinfegbkigcaaRtM
namespace Go.Rt

/-- The address of cell k of a row. -/
def RPtr (v : Value) (k : Nat) : Ty := ⟨fun p _ => ∃ g n c, v = .slice (some ⟨g, 0, none⟩) n c ∧ p = .pointer (some ⟨g, k, none⟩), fun _ _ _ _ h => h⟩

theorem RowV.some {α : Type} [Enc α] {v : Value} {E : TypeId} {xs : List α} {w : World} {V : View} (h : (RowV v E xs).at w V) (hne : xs ≠ []) :
    ∃ g cap cs, v = .slice (some ⟨g, 0, none⟩) xs.length cap ∧ w.heap[g]? = some (.cells cs E (0, 0)) ∧ V g = none ∧ (RowV v E xs).id = some g ∧ xs.length ≤ cap ∧ cap ≤ 9223372036854775807 ∧ cs.size = cap * Enc.sz α ∧
      ∀ (i : Nat) (T : Ty), (xs.flatMap Enc.ty)[i]? = some T → ∃ c, cs[i]? = some c ∧ T.p c V := by
  unfold Res.at at h
  cases hid : (RowV v E xs).id with
  | none =>
    rw [hid] at h
    rcases h with ⟨_, _, h2⟩ | ⟨g, cap, cs, h1, _⟩
    · exact absurd h2 hne
    · subst h1; cases hid
  | some b =>
    rw [hid] at h
    obtain ⟨o, h1, h2, h3⟩ := h
    rcases h3 with ⟨h3, _, _⟩ | ⟨g, cap, cs, h4, h5, h6, h7, h8, h9⟩
    · cases h3
    · cases h5
      subst h4
      have hg : g = b := by simpa [RowV, Value.ownBlock] using hid
      subst hg
      exact ⟨g, cap, cs, rfl, h1, h2, rfl, h6, h7, h8, h9⟩

theorem RowV.len {α : Type} [Enc α] {v : Value} {E : TypeId} {xs : List α} {w : World} {V : View} (h : (RowV v E xs).at w V) : ∃ a cap, v = .slice a xs.length cap ∧ xs.length ≤ cap ∧ cap ≤ 9223372036854775807 := by
  by_cases hne : xs = []
  · unfold Res.at at h
    cases hid : (RowV v E xs).id with
    | none =>
      rw [hid] at h
      rcases h with ⟨_, h1, h2⟩ | ⟨g, cap, cs, h1, _⟩
      · subst h2; exact ⟨none, 0, h1, Nat.le_refl _, by omega⟩
      · subst h1; cases hid
    | some b =>
      rw [hid] at h
      obtain ⟨o, h1, h2, h3⟩ := h
      rcases h3 with ⟨h3, _, _⟩ | ⟨g, cap, cs, h4, _, h6, h7, _⟩
      · cases h3
      · exact ⟨_, cap, h4, h6, h7⟩
  · obtain ⟨g, cap, cs, h1, _, _, _, h2, h3, _⟩ := RowV.some h hne
    exact ⟨_, cap, h1, h2, h3⟩

section
variable {P : Program} {F : List (Nat × Ty)} {M : List Res} {o : Oper} {T : Ty}

theorem t_lenRow {α : Type} [Enc α] {xs : List α} {v : Value} {x : Operand} {t e E : TypeId} (ho : o.op = .call { callee := .builtin .len, args := #[x], argTypes := #[t] } := by rfl) (hx : OT F x (Is v) := by first | exact ot_tmp rfl | exact ot_const)
    (hm : RowV v E xs ∈ M := by (repeat (first | exact List.Mem.head _ | apply List.Mem.tail)); first | done | fail) (u : UndT P t (.slice e) := by infer_instance) : OpT P F M o (Is (.int .i64 xs.length)) :=
  opT_val fun tm V w hf _ hmem => by
    have h1 := ot_is hx hf (by simp [ho, Op.operands, Call.operands])
    obtain ⟨a, cap, h2, _⟩ := RowV.len (hmem.all _ hm)
    exact ⟨.int .i64 xs.length, by simp [execOp, ho, resolve, invoke, builtin, Builtin.len_, h1, h2, run_underlying u.h, goInt], rfl⟩

theorem t_indexRow {α : Type} [Enc α] {xs : List α} {v : Value} {x i : Operand} {t e E : TypeId} {k : IntKind} {n : Int} (ho : o.op = .indexAddr t x i := by rfl) (hx : OT F x (Is v) := by first | exact ot_tmp rfl)
    (hi : OT F i (Is (.int k n)) := by first | exact ot_tmp rfl | exact ot_const) (hm : RowV v E xs ∈ M := by (repeat (first | exact List.Mem.head _ | apply List.Mem.tail)); first | done | fail) (u : UndT P t (.slice e) := by infer_instance) (s : SizeT P e (Enc.sz α) := by infer_instance)
    (h0 : 0 ≤ n := by omega) (hn : n < xs.length := by omega) {m : Nat} (hm' : n.toNat = m := by first | exact Int.toNat_natCast _ | exact rfl) : OpT P F M o (RPtr v (m * Enc.sz α)) :=
  opT_val fun tm V w hf _ hmem => by
    subst hm'
    have h1 := ot_is hx hf (by simp [ho, Op.operands])
    obtain ⟨g, cap, cs, h2, _⟩ := RowV.some (hmem.all _ hm) (by intro e; subst e; simp at hn; omega)
    refine ⟨.pointer (some ⟨g, n.toNat * Enc.sz α, none⟩), ?_, g, _, _, h2, rfl⟩
    simp [execOp, ho, h1, ot_is hi hf (by simp [ho, Op.operands]), Instr.indexAt, asIntOf, run_underlying u.h, s.h w, h0, h2, hn, add_mk]

theorem t_fieldRow {v : Value} {x : Operand} {t : TypeId} {f off k : Nat} (ho : o.op = .fieldAddr t x f := by rfl) (hx : OT F x (RPtr v k) := by first | exact ot_tmp rfl) (g : FieldT P t f off := by infer_instance) : OpT P F M o (RPtr v (k + off)) :=
  opT_val fun tm V w hf _ _ => by
    obtain ⟨b, n, c, h1, h2⟩ := hx.h tm V (hf _ (by simp [ho, Op.operands]))
    exact ⟨_, by simp [execOp, ho, h2, g.h, add_mk], b, n, c, h1, rfl⟩

theorem row_at {α : Type} [Enc α] [Inhabited α] {xs : List α} {i j : Nat} (hi : i < xs.length) (hj : j < Enc.sz α) : (xs.flatMap Enc.ty)[i * Enc.sz α + j]? = (Enc.ty (xs.getD i default))[j]? := by
  rw [← List.getElem?_drop, flatMap_drop, List.drop_eq_getElem_cons hi, List.flatMap_cons, List.getElem?_append_left (by rw [Enc.len]; exact hj)]
  simp [List.getD, hi]

theorem t_loadRow {α : Type} [Enc α] [Inhabited α] {xs : List α} {v : Value} {x : Operand} {t E : TypeId} {i : Nat} (ho : o.op = .load t x := by rfl) (hx : OT F x (RPtr v (i * Enc.sz α)) := by first | exact ot_tmp rfl)
    (hm : RowV v E xs ∈ M := by (repeat (first | exact List.Mem.head _ | apply List.Mem.tail)); first | done | fail) (g : GoT P t α := by infer_instance) (hi : i < xs.length := by omega) : OpT P F M o (Va (xs.getD i default)) :=
  opT_val fun tm V w hf hh hmem => by
    obtain ⟨b, n, c, h1, h2⟩ := hx.h tm V (hf _ (by simp [ho, Op.operands]))
    obtain ⟨b', cap, cs, h3, h4, _, _, _, _, _, h5⟩ := RowV.some (hmem.all _ hm) (by intro e; subst e; simp at hi)
    rw [h1] at h3
    cases h3
    have hcell : ∀ j, j < Enc.sz α → ∃ c, w.cell? ⟨b, i * Enc.sz α + j, none⟩ = Option.some c ∧ ∀ T, (Enc.ty (xs.getD i default))[j]? = Option.some T → T.p c V := fun j hj => by
      have hl : j < (Enc.ty (xs.getD i default)).length := by rw [Enc.len]; exact hj
      obtain ⟨c, e1, e2⟩ := h5 (i * Enc.sz α + j) _ (by rw [row_at hi hj]; exact List.getElem?_eq_getElem hl)
      refine ⟨c, by simp [World.cell?, h4, e1], fun T e => ?_⟩
      rw [List.getElem?_eq_getElem hl] at e; cases e; exact e2
    cases ha : Enc.agg α with
    | true =>
      obtain ⟨l, h6, h7⟩ := choose_list (p := fun j c => w.cell? ⟨b, i * Enc.sz α + j, none⟩ = Option.some c ∧ ∀ T, (Enc.ty (xs.getD i default))[j]? = Option.some T → T.p c V) undef (Enc.sz α) hcell
      have hl : (loadCells ⟨b, i * Enc.sz α, none⟩ (Enc.sz α)).run P w = .ok l.toArray w := by
        have h8 := run_loadCells_list (P := P) w ⟨b, i * Enc.sz α, none⟩ l fun j v hv => by
          have hj : j < Enc.sz α := by rw [← h6]; exact (List.getElem?_eq_some_iff.1 hv).1
          rw [add_mk]
          have := (h7 j hj).1
          simpa [List.getD, hv] using this
        rw [h6] at h8; exact h8
      refine ⟨.agg l.toArray, by simp [execOp, ho, h2, Instr.loadAt, Instr.sureAddr, loadVar, g.agg w, ha, g.size w, hl], ?_⟩
      rw [va_agg ha]
      refine ⟨l.toArray, rfl, by simp [h6, Enc.len], fun j T e => ?_⟩
      have hj : j < Enc.sz α := by rw [← Enc.len (xs.getD i default)]; exact (List.getElem?_eq_some_iff.1 e).1
      exact ⟨l.getD j undef, by simp [List.getD, List.getElem?_eq_getElem (show j < l.length by omega)], (h7 j hj).2 T e⟩
    | false =>
      obtain ⟨T, hT, hV⟩ := va_one (x := xs.getD i default) ha
      obtain ⟨c, e1, e2⟩ := hcell 0 (Enc.pos)
      exact ⟨c, by simp [execOp, ho, h2, Instr.loadAt, Instr.sureAddr, loadVar, g.agg w, ha, show w.cell? ⟨b, i * Enc.sz α, none⟩ = Option.some c by simpa using e1], by rw [hV]; exact e2 T (by rw [hT]; rfl)⟩

theorem t_loadRow_one {α : Type} [Enc α] [Inhabited α] {xs : List α} {v : Value} {x : Operand} {t E : TypeId} {i j : Nat} (ho : o.op = .load t x := by rfl) (hx : OT F x (RPtr v (i * Enc.sz α + j)) := by first | exact ot_tmp rfl)
    (hm : RowV v E xs ∈ M := by (repeat (first | exact List.Mem.head _ | apply List.Mem.tail)); first | done | fail) (g : AggT P t false := by infer_instance) (hT : (Enc.ty (xs.getD i default))[j]? = some T := by rfl) (hi : i < xs.length := by omega) : OpT P F M o T :=
  opT_val fun tm V w hf hh hmem => by
    obtain ⟨b, n, c, h1, h2⟩ := hx.h tm V (hf _ (by simp [ho, Op.operands]))
    obtain ⟨b', cap, cs, h3, h4, _, _, _, _, _, h5⟩ := RowV.some (hmem.all _ hm) (by intro e; subst e; simp at hi)
    rw [h1] at h3
    cases h3
    have hj : j < Enc.sz α := by rw [← Enc.len (xs.getD i default)]; exact (List.getElem?_eq_some_iff.1 hT).1
    obtain ⟨c, e1, e2⟩ := h5 (i * Enc.sz α + j) T (by rw [row_at hi hj]; exact hT)
    exact ⟨c, by simp [execOp, ho, h2, Instr.loadAt, Instr.sureAddr, loadVar, g.h w, World.cell?, h4, e1], e2⟩

/-- A store into a row: cells from k on. -/
theorem m_storeCells {α : Type} [Enc α] {xs xs' : List α} {v : Value} {x y : Operand} {t E : TypeId} {k n : Nat} {Us : List Ty} {M' : List Res} (ho : o.op = .store t x y) (hx : OT F x (RPtr v k)) (hy : OCells F y Us) (hS : ∀ T ∈ Us, Scal T)
    (s : SizeT P t n) (hU : Us.length = n) (hne : xs ≠ []) (hl : xs'.length = xs.length) (hk : k + n ≤ xs.length * Enc.sz α)
    (hX : xs'.flatMap Enc.ty = (xs.flatMap Enc.ty).take k ++ Us ++ (xs.flatMap Enc.ty).drop (k + n)) (hu : Upd M (RowV v E xs) M' (RowV v E xs')) :
    OpM P F M o Unit (fun _ => anyTy) (fun _ => M') := by
  refine ⟨fun tm w V hf hh hm => ?_⟩
  obtain ⟨b, n0, c0, h1, h2⟩ := hx.h tm V (hf _ (by simp [ho, Op.operands]))
  obtain ⟨hc1, hc2⟩ := hy.h tm V (hf _ (by simp [ho, Op.operands]))
  obtain ⟨b', cap, cs, h3, h4, hV, hid, h6, h7, h8, h5⟩ := RowV.some (hm.all _ hu.mem) hne
  obtain ⟨rfl, rfl, rfl⟩ : b = b' ∧ n0 = xs.length ∧ c0 = cap := by rw [h1] at h3; simpa using h3
  have hcap : xs.length * Enc.sz α ≤ c0 * Enc.sz α := Nat.mul_le_mul_right _ h6
  have hone : ∀ v ∈ (ev tm y).cells.toList, v.oneCell' = true := by
    intro v hv
    obtain ⟨i, hi⟩ := List.getElem?_of_mem hv
    have hil : i < Us.length := by rw [← hc1]; simpa using (List.getElem?_eq_some_iff.1 hi).1
    obtain ⟨c, e1, e2⟩ := hc2 i _ (List.getElem?_eq_getElem hil)
    have : v = c := by have : (ev tm y).cells[i]? = Option.some v := by simpa using hi
                       rw [e1] at this; exact (Option.some.inj this).symm
    subst this
    exact hS _ (List.getElem_mem hil) _ _ e2
  have hrun : (execOp (ev tm) o).run P w = .ok .skip (w.setRow b (cs.toList.take k ++ (ev tm y).cells.toList ++ cs.toList.drop (k + n)).toArray) := by
    have hst := run_storeCells_at P b k E (ev tm y).cells.toList 0 cs w h4 (by simp; omega) hone
    simp only [Nat.add_zero, Array.length_toList, hc1, hU] at hst
    simp [execOp, ho, h2, Instr.storeAt, Instr.sureAddr, storeVar, s.h w, hc1, hU, hst]
  unfold OpRuns
  rw [hrun]
  have hid' : (RowV v E xs').id = Option.some b := hid
  have hmem := hm.upd hu (b := b) (w' := w.setRow b (cs.toList.take k ++ (ev tm y).cells.toList ++ cs.toList.drop (k + n)).toArray) hid hid' (fun j hj => setRow_other w b j _ hj) (setRow_heap w b cs _ E (0, 0) h4)
    (.inr ⟨b, c0, _, by rw [h1, hl], rfl, by omega, h7, by simp; omega, fun i U e => by
      have l1 : (cs.toList.take k).length = k := by simp; omega
      have l2 : ((xs.flatMap Enc.ty).take k).length = k := by simp only [List.length_take, length_flatMap]; omega
      have l3 : (ev tm y).cells.toList.length = n := by simp [hc1, hU]
      rw [hX, List.append_assoc] at e
      rw [List.getElem?_toArray, List.append_assoc]
      by_cases hi : i < k
      · rw [List.getElem?_append_left (by omega), List.getElem?_take, if_pos hi] at e
        obtain ⟨c, e1, e2⟩ := h5 i U e
        exact ⟨c, by rw [List.getElem?_append_left (by omega), List.getElem?_take, if_pos hi]; simpa using e1, e2⟩
      · rw [List.getElem?_append_right (by omega), l2] at e
        by_cases hj : i - k < n
        · rw [List.getElem?_append_left (by omega)] at e
          obtain ⟨c, e1, e2⟩ := hc2 _ U e
          exact ⟨c, by rw [List.getElem?_append_right (by omega), l1, List.getElem?_append_left (by omega)]; simpa using e1, e2⟩
        · rw [List.getElem?_append_right (by omega), hU, List.getElem?_drop] at e
          obtain ⟨c, e1, e2⟩ := h5 _ U e
          exact ⟨c, by rw [List.getElem?_append_right (by omega), l1, List.getElem?_append_right (by omega), l3, List.getElem?_drop]; simpa using e1, e2⟩⟩)
  exact ⟨(), V, evo_upd hh (mem_ids.2 ⟨_, hu.mem, hid⟩) hV rfl rfl rfl (by simp) (fun j hj => setRow_other w b j _ hj), trivial, hmem.1, fun b' hb' => .inl (hmem.2 ▸ hb')⟩

theorem flatMap_take {α : Type} [Enc α] (xs : List α) (i : Nat) : (xs.flatMap Enc.ty).take (i * Enc.sz α) = (xs.take i).flatMap Enc.ty := by
  have h : xs.flatMap Enc.ty = (xs.take i).flatMap Enc.ty ++ (xs.drop i).flatMap Enc.ty := by rw [← List.flatMap_append, List.take_append_drop]
  by_cases hi : i ≤ xs.length
  · rw [h]
    have l : ((xs.take i).flatMap Enc.ty).length = i * Enc.sz α := by rw [length_flatMap, List.length_take, Nat.min_eq_left hi]
    rw [← l]; exact List.take_left
  · rw [List.take_of_length_le, List.take_of_length_le (by omega)]
    rw [length_flatMap]; exact Nat.mul_le_mul_right _ (by omega)

theorem flatMap_set {α : Type} [Enc α] (xs : List α) (i : Nat) (a : α) (hi : i < xs.length) : (xs.set i a).flatMap Enc.ty = (xs.flatMap Enc.ty).take (i * Enc.sz α) ++ Enc.ty a ++ (xs.flatMap Enc.ty).drop (i * Enc.sz α + Enc.sz α) := by
  rw [flatMap_take, show i * Enc.sz α + Enc.sz α = (i + 1) * Enc.sz α from (Nat.succ_mul _ _).symm, flatMap_drop, List.set_eq_take_append_cons_drop, if_pos hi]
  simp

/-- A whole element. -/
theorem m_storeRow {α : Type} [Enc α] {xs : List α} {a : α} {v : Value} {x y : Operand} {t E : TypeId} {i n : Nat} {M' : List Res} (ho : o.op = .store t x y := by rfl) (hx : OT F x (RPtr v (i * Enc.sz α)) := by exact ot_tmp rfl) (hy : OCells F y (Enc.ty a))
    (hu : Upd M (RowV v E xs) M' (RowV v E (xs.set i a)) := by (repeat (first | exact Upd.head | apply Upd.tail)); first | done | fail) (s : SizeT P t n := by infer_instance) (hn : Enc.sz α = n := by rfl) (hi : i < xs.length := by omega) :
    OpM P F M o Unit (fun _ => anyTy) (fun _ => M') := by
  refine m_storeCells ho hx hy (Enc.scal a) s (by rw [Enc.len, hn]) (by intro e; subst e; simp at hi) (by simp) ?_ ?_ hu
  · rw [← hn, ← Nat.succ_mul]; exact Nat.mul_le_mul_right _ hi
  · rw [← hn]; exact flatMap_set xs i a hi

/-- One cell of an element. -/
theorem m_storeRow_one {α : Type} [Enc α] [Inhabited α] {xs : List α} (a : α) {v : Value} {x y : Operand} {t E : TypeId} {i j : Nat} {M' : List Res} (ho : o.op = .store t x y := by rfl) (hx : OT F x (RPtr v (i * Enc.sz α + j)) := by exact ot_tmp rfl)
    (hy : OT F y T := by first | exact ot_tmp rfl | exact ot_const) (hS : Scal T := by first | exact scal_is rfl | exact scal_sl _) (ha : Enc.ty a = (Enc.ty (xs.getD i default)).set j T := by rfl) (hj : j < Enc.sz α := by decide)
    (hu : Upd M (RowV v E xs) M' (RowV v E (xs.set i a)) := by (repeat (first | exact Upd.head | apply Upd.tail)); first | done | fail) (s : SizeT P t 1 := by infer_instance) (hi : i < xs.length := by omega) :
    OpM P F M o Unit (fun _ => anyTy) (fun _ => M') := by
  have hle : i * Enc.sz α + Enc.sz α ≤ xs.length * Enc.sz α := by rw [← Nat.succ_mul]; exact Nat.mul_le_mul_right _ hi
  refine m_storeCells ho hx (oc_one hy hS) (by simpa using hS) s rfl (by intro e; subst e; simp at hi) (by simp) (by omega) ?_ hu
  rw [flatMap_set xs i a hi, ha, List.set_eq_take_append_cons_drop, if_pos (by rw [Enc.len]; exact hj)]
  have hseg : Enc.ty (xs.getD i default) = ((xs.flatMap Enc.ty).drop (i * Enc.sz α)).take (Enc.sz α) := by
    rw [flatMap_drop, List.drop_eq_getElem_cons hi, List.flatMap_cons, ← Enc.len (xs[i]), List.take_left]
    simp [List.getD, hi]
  rw [hseg, List.take_take, Nat.min_eq_left (by omega), List.drop_take, List.drop_drop]
  have e1 : (xs.flatMap Enc.ty).take (i * Enc.sz α + j) = (xs.flatMap Enc.ty).take (i * Enc.sz α) ++ ((xs.flatMap Enc.ty).drop (i * Enc.sz α)).take j := by
    rw [List.take_add]
  have e2 : (xs.flatMap Enc.ty).drop (i * Enc.sz α + j + 1) = ((xs.flatMap Enc.ty).drop (i * Enc.sz α + (j + 1))).take (Enc.sz α - (j + 1)) ++ (xs.flatMap Enc.ty).drop (i * Enc.sz α + Enc.sz α) := by
    have e3 := List.take_append_drop (Enc.sz α - (j + 1)) ((xs.flatMap Enc.ty).drop (i * Enc.sz α + (j + 1)))
    rw [List.drop_drop, show i * Enc.sz α + (j + 1) + (Enc.sz α - (j + 1)) = i * Enc.sz α + Enc.sz α from by omega] at e3
    rw [e3, Nat.add_assoc]
  rw [e1, e2]
  simp

/-- A call that makes resources of its own. -/
theorem m_callR {f : FuncId} {xs : List Operand} {As : List Ty} {ats : Array TypeId} {β : Type} {T : β → Ty} {M1 : β → List Res} (hs : SpecR P f As [] β T M1) (ho : o.op = .call { callee := .value (.func f), args := xs.toArray, argTypes := ats } := by rfl)
    (hx : OTs F xs As := by (repeat (first | exact trivial | refine ⟨by first | exact ot_tmp rfl | exact ot_const | exact ot_func | exact ot_sub (ot_tmp rfl) sl_slf, ?_⟩)); first | done | fail) : OpM P F M o β T (fun x => M1 x ++ M) := by
  refine ⟨fun tm w V hf hh hm => ?_⟩
  unfold OpRuns
  have : (execOp (ev tm) o).run P w = .ok (.enter f (xs.toArray.map (ev tm))) w := by
    simp [execOp, ho, resolve, ev, Deferred.ofValue, invoke, hs.c]
  rw [this]
  refine Runs.mono (hs.h w V _ (hx.ta fun x hm => hf x (by simp [ho, Op.operands, Call.operands, hm])) hh (Mem.nil _ _)) fun v w' ⟨x, V', h1, h2, h3, h4⟩ => ?_
  have hev : Evo [] w V w' V' := h1.weaken (by simp [ids])
  have hm' := hm.evo hh hev (by simp)
  have hids : ids (M1 x ++ M) = ids (M1 x) ++ ids M := by simp [ids]
  refine ⟨x, V', hev.weaken (by simp), h2, ⟨?_, fun r hr => ?_⟩, fun b hb => ?_⟩
  · rw [hids, List.nodup_append]
    refine ⟨h3.nodup, hm.nodup, fun a ha b hb e => ?_⟩
    subst e
    have := hm.lt hb
    rcases h4 a ha with h | h
    · simp [ids] at h
    · omega
  · rcases List.mem_append.1 hr with h | h
    · exact h3.all r h
    · exact hm'.all r h
  · rw [hids] at hb
    rcases List.mem_append.1 hb with h | h
    · exact .inr ((h4 b h).elim (fun h => by simp [ids] at h) id)
    · exact .inl h

/-- A call that is handed one resource. -/
theorem m_callR1 {f : FuncId} {xs : List Operand} {As : List Ty} {ats : Array TypeId} {β : Type} {T : β → Ty} {r : Res} {M1 : β → List Res} {M2 : List Res} (hs : SpecR P f As [r] β T M1) (ho : o.op = .call { callee := .value (.func f), args := xs.toArray, argTypes := ats } := by rfl)
    (hd : Del M r M2 := by (repeat (first | exact Del.head | apply Del.tail)); first | done | fail)
    (hx : OTs F xs As := by (repeat (first | exact trivial | refine ⟨by first | exact ot_tmp rfl | exact ot_const | exact ot_func | exact ot_sub (ot_tmp rfl) sl_slf, ?_⟩)); first | done | fail) : OpM P F M o β T (fun x => M1 x ++ M2) := by
  refine ⟨fun tm w V hf hh hm => ?_⟩
  unfold OpRuns
  have : (execOp (ev tm) o).run P w = .ok (.enter f (xs.toArray.map (ev tm))) w := by
    simp [execOp, ho, resolve, ev, Deferred.ofValue, invoke, hs.c]
  rw [this]
  obtain ⟨hn2, hnot⟩ := hd.nodup hm.nodup
  have hm2 : Mem M2 w V := ⟨hn2, fun x hx => hm.all x (hd.sub x hx)⟩
  have hm1 : Mem [r] w V := ⟨by cases hid : r.id <;> simp [ids, hid], fun x hx => by simp at hx; subst hx; exact hm.all _ hd.mem⟩
  have hin : ∀ b ∈ ids [r], r.id = some b := fun b hb => by
    obtain ⟨x, hx, hid⟩ := mem_ids.1 hb; simp at hx; subst hx; exact hid
  have hsub2 : ∀ b ∈ ids M2, b ∈ ids M := fun b hb => by
    obtain ⟨x, hx, hid⟩ := mem_ids.1 hb; exact mem_ids.2 ⟨x, hd.sub x hx, hid⟩
  have hsub1 : ∀ b ∈ ids [r], b ∈ ids M := fun b hb => mem_ids.2 ⟨r, hd.mem, hin b hb⟩
  refine Runs.mono (hs.h w V _ (hx.ta fun x hm => hf x (by simp [ho, Op.operands, Call.operands, hm])) hh hm1) fun v w' ⟨x, V', h1, h2, h3, h4⟩ => ?_
  have hm' := hm2.evo hh h1 (fun b hb hb' => hnot b (hin b hb') hb)
  have hids : ids (M1 x ++ M2) = ids (M1 x) ++ ids M2 := by simp [ids]
  refine ⟨x, V', h1.weaken hsub1, h2, ⟨?_, fun y hy => ?_⟩, fun b hb => ?_⟩
  · rw [hids, List.nodup_append]
    refine ⟨h3.nodup, hn2, fun a ha b hb e => ?_⟩
    subst e
    rcases h4 a ha with h | h
    · exact hnot a (hin a h) hb
    · have := hm2.lt hb; omega
  · rcases List.mem_append.1 hy with h | h
    · exact h3.all y h
    · exact hm'.all y h
  · rw [hids] at hb
    rcases List.mem_append.1 hb with h | h
    · exact (h4 b h).imp (hsub1 b) id
    · exact .inl (hsub2 b h)
end
end Go.Rt
