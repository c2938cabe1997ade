/- Rows handed over: at a return, inside of a struct; rows made and copied into. -/
import Derived.Test.YtkoinfegbkigcaaRtQ
namespace Go.Rt

section
variable {P : Program} {C : Ctx} {F : List (Nat × Ty)} {M M' : List Res} {o : Oper} {T : Ty}

theorem row_thaw {α : Type} [Enc α] {v : Value} {E : TypeId} {xs : List α} (hX : C.X = []) (hd : Del M (RowV v E xs) M') {w : World} {V : View} (hev : Evo C.X C.w0 C.V0 w V) (hm : Mem M w V) (hI : IdsOk C M) :
    ∃ V', V.Le V' ∧ Evo C.X C.w0 C.V0 w V' ∧ Mem M' w V' ∧ IdsOk C M' ∧ (Sl xs).p v V' := by
  have h := e_row (C := C) (F := [(0, Is v), (1, ⟨fun _ V1 => V.Le V1, fun _ _ _ hl h => h.trans hl⟩)]) (M := M) (M' := M') (E := E) (xs := xs) (v := v) (s := 0) rfl hX hd #[v] w V
    (by
      intro i U e
      match i, e with
      | 0, e => cases e; rfl
      | 1, e => cases e; exact View.Le.refl _) hev hm hI
  obtain ⟨V', h1, h2, h3, h4⟩ := h
  exact ⟨V', h1 1 _ rfl, h2, h3, h4, h1 0 _ rfl⟩

/-- A function that hands back a row of its own hands back a slice that turns no more. -/
theorem spec_freeze {α : Type} [Enc α] {f : FuncId} {As : List Ty} {E : TypeId} {xs : List α} (h : SpecR P f As [] Value Is (fun v => [RowV v E xs])) : FnS P f As (Sl xs) := by
  refine ⟨h.c, fun w V args ha hh hm => (h.h w V args ha hh hm).mono ?_⟩
  rintro v w' ⟨x, V', h1, h2, h3, h4⟩
  have hx : v = x := h2
  subst hx
  obtain ⟨V2, g1, g2, g3, g4, g5⟩ := row_thaw (C := ⟨w, V, ids []⟩) (M := [RowV v E xs]) (M' := []) rfl .head h1 h3 h4
  exact ⟨(), V2, g2, g5, g3, g4⟩

/-- A row whose slice lies in a struct under construction. -/
theorem e_rowIn {α : Type} [Enc α] {v : Value} {E E0 : TypeId} {xs : List α} {b j : Nat} {Ts Ts' : List Ty} {M1 : List Res} (hX : C.X = []) (hd : Del M (RowV v E xs) M1 := by (repeat (first | exact Del.head | apply Del.tail)); first | done | fail) (hu : Upd M1 (Cells b E0 Ts) M' (Cells b E0 Ts') := by (repeat (first | exact Upd.head | apply Upd.tail)); first | done | fail) (hj : Ts[j]? = some (Is v) := by exact rfl) (hT : Ts.set j (Sl xs) = Ts' := by exact rfl) :
    Ent C F M F M' := by
  intro t w V hTF hev hm hI
  obtain ⟨V', h1, h2, h3, h4, h5⟩ := row_thaw hX hd hev hm hI
  obtain ⟨ob, g1, g2, cs, g3, g4, g5⟩ := h3.all _ hu.mem
  cases g3
  have hmem := h3.upd hu (b := b) (w' := w) rfl rfl (fun _ _ => rfl) g1 ⟨cs, rfl, by rw [← hT]; simpa using g4, fun i U e => by
    subst hT
    rw [List.getElem?_set] at e
    split at e
    · rename_i hi
      subst hi
      split at e
      · cases e
        obtain ⟨c, e1, e2⟩ := g5 j _ hj
        have : c = v := e2
        subst this
        exact ⟨c, e1, h5⟩
      · cases e
    · exact g5 i U e⟩
  exact ⟨V', hTF.le h1, h2, hmem.1, fun b' hb' => h4 b' (hmem.2 ▸ hb')⟩

/-- A resource that is no more needed. -/
theorem e_drop {r : Res} (hd : Del M r M' := by (repeat (first | exact Del.head | apply Del.tail)); first | done | fail) : Ent C F M F M' := by
  intro t w V hTF hev hm hI
  exact ⟨V, hTF, hev, ⟨(hd.nodup hm.nodup).1, fun x hx => hm.all x (hd.sub x hx)⟩, fun b' hb' => by
    obtain ⟨x, hx, hxb⟩ := mem_ids.1 hb'
    exact hI b' (mem_ids.2 ⟨x, hd.sub x hx, hxb⟩)⟩

theorem m_make {α : Type} [Enc α] (z : α) {t e : TypeId} {x y : Operand} {n : Int} {sz by_ : Nat} {zv : Value} (ho : o.op = .makeSlice t x y := by rfl) (hx : OT F x (Is (.int .i64 n)) := by first | exact ot_tmp rfl | exact ot_const) (hy : OT F y (Is (.int .i64 n)) := by first | exact ot_tmp rfl | exact ot_const)
    (u : UndT P t (.slice e) := by infer_instance) (el : ElemT P e sz by_ := by infer_instance) (hsz : sz = Enc.sz α := by rfl) (zt : ZeroT P e zv := by infer_instance) (hz : zv.cells.toList.map Is = Enc.ty z := by rfl) (h0 : 0 ≤ n := by omega) (hn : (by_ : Int) * n ≤ 281474976710656 := by omega) (h63 : n ≤ 9223372036854775807 := by omega) :
    OpM P F M o Value Is (fun v => RowV v e (List.replicate n.toNat z) :: M) := by
  subst hsz
  obtain ⟨inf, z', hi, hz', hsize, hby, hzs⟩ := el.h
  subst hby
  refine ⟨fun tm w V hf hh hm => ?_⟩
  have h1 := ot_is hx hf (by simp [ho, Op.operands])
  have h2 := ot_is hy hf (by simp [ho, Op.operands])
  have hzz : z' = zv := by
    have := zt.h w
    simp [zeroValue, typeInfo, program, Sem.run, hi, hz'] at this
    exact this
  subst hzz
  have hrun := run_make (P := P) w t e inf z' u.h hi hz' .i64 .i64 n n h0 (Int.le_refl _) hn h63
  unfold OpRuns
  have : (execOp (ev tm) o).run P w = .ok (.value (.slice (some ⟨w.heap.size, 0, none⟩) n.toNat n.toNat)) (w.alloc (.cells (madeCells z'.cells (n.toNat * inf.size)) e)) := by
    simp [execOp, ho, h1, h2, hrun]
  rw [this, hsize]
  have hcell : ∀ (i : Nat) (T : Ty), ((List.replicate n.toNat z).flatMap Enc.ty)[i]? = some T → ∃ c, (madeCells z'.cells (n.toNat * Enc.sz α))[i]? = some c ∧ T.p c V := by
    intro i T e
    have hil : i < n.toNat * Enc.sz α := by
      have := (List.getElem?_eq_some_iff.1 e).1
      rw [length_flatMap, List.length_replicate] at this; exact this
    have hpos := Enc.pos (α := α)
    have hmod : i % Enc.sz α < Enc.sz α := Nat.mod_lt _ hpos
    have hdiv : i / Enc.sz α < (List.replicate n.toNat z).length := by rw [List.length_replicate]; exact (Nat.div_lt_iff_lt_mul hpos).2 hil
    let _ : Inhabited α := ⟨z⟩
    have hrow := row_at (α := α) (xs := List.replicate n.toNat z) (i := i / Enc.sz α) (j := i % Enc.sz α) hdiv hmod
    have hgd : (List.replicate n.toNat z).getD (i / Enc.sz α) default = z := by
      rw [List.length_replicate] at hdiv
      simp [List.getD, hdiv]
    rw [Nat.mul_comm, Nat.div_add_mod, hgd, ← hz] at hrow
    rw [hrow, List.getElem?_map] at e
    have hc : z'.cells.toList[i % Enc.sz α]? = some (z'.cells[i % Enc.sz α]'(by rw [hzs]; exact hmod)) := by
      rw [Array.getElem?_toList]
      exact Array.getElem?_eq_getElem (by rw [hzs]; exact hmod)
    rw [hc] at e
    cases e
    refine ⟨_, ?_, rfl⟩
    simp [madeCells, hil, hzs, hmod]
  have hr : (RowV (.slice (some ⟨w.heap.size, 0, none⟩) n.toNat n.toNat) e (List.replicate n.toNat z)).p (some (.cells (madeCells z'.cells (n.toNat * Enc.sz α)) e)) V :=
    .inr ⟨w.heap.size, n.toNat, _, by simp, rfl, by simp, by omega, by simp [madeCells], hcell⟩
  refine ⟨_, V, evo_push_hidden hh _, rfl, hm.push hh (r := RowV (.slice (some ⟨w.heap.size, 0, none⟩) n.toNat n.toNat) e (List.replicate n.toNat z)) rfl hr, fun b' hb' => ?_⟩
  rw [ids_cons_some rfl] at hb'
  rcases List.mem_cons.1 hb' with rfl | h
  · exact .inr (Nat.le_refl _)
  · exact .inl h

/-- The part of a row from element k on. -/
def RSl {α : Type} [Enc α] (v : Value) (k : Nat) : Ty :=
  ⟨fun p _ => ∃ g n c, v = .slice (some ⟨g, 0, none⟩) n c ∧ p = .slice (some (if c = k then ⟨g, 0, none⟩ else ⟨g, k * Enc.sz α, none⟩)) (n - k) (c - k), fun _ _ _ _ h => h⟩

theorem t_sliceRow_l {α : Type} [Enc α] {xs : List α} {v : Value} {t e E : TypeId} {x lo : Operand} {k' : IntKind} {h : Int} (hm : RowV v E xs ∈ M) (ho : o.op = .slice t x (some lo) none none := by rfl) (hx : OT F x (Is v) := by exact ot_tmp rfl)
    (hhi : OT F lo (Is (.int k' h)) := by first | exact ot_tmp rfl | exact ot_const) (u : UndT P t (.slice e) := by infer_instance) (sz : SizeT P e (Enc.sz α) := by infer_instance)
    (h1 : 0 ≤ h := by omega) (h2 : h ≤ xs.length := by omega) (hne : xs ≠ []) : OpT P F M o (RSl (α := α) v h.toNat) :=
  opT_val fun tm V w hf _ hmem => by
    have h3 := ot_is hx hf (by simp [ho, Op.operands])
    have h5 := ot_is hhi hf (by simp [ho, Op.operands])
    obtain ⟨g, cap, cs, h6, _, _, _, h8, _⟩ := RowV.some (hmem.all _ hm) hne
    refine ⟨_, ?_, g, _, _, h6, rfl⟩
    by_cases hc : cap = h.toNat
    · simp [execOp, ho, h3, h5, h6, Instr.sliceAt, Instr.slice, run_underlying u.h, Instr.sliceBounds, run_bound (P := P) (w := w) (k := k') (i := h) (y := xs.length) (c := .sliceB) (by omega) (by omega), sz.h w, hc]
    · simp [execOp, ho, h3, h5, h6, Instr.sliceAt, Instr.slice, run_underlying u.h, Instr.sliceBounds, run_bound (P := P) (w := w) (k := k') (i := h) (y := xs.length) (c := .sliceB) (by omega) (by omega), sz.h w, hc, add_mk]

/-- copy into a row, from element k on. -/
theorem m_copy {α : Type} [Enc α] {xs ys xs' : List α} {v : Value} {k : Nat} {t e E : TypeId} {x y : Operand} {M' : List Res} (hx : OT F x (RSl (α := α) v k) ∨ k = 0 ∧ OT F x (Is v)) (ho : o.op = .call { callee := .builtin .copy, args := #[x, y], argTypes := #[t, t] } := by rfl) (hy : OT F y (Sl ys) := by exact ot_tmp rfl)
    (u : UndT P t (.slice e) := by infer_instance) (s : SizeT P e (Enc.sz α) := by infer_instance) (hle : k + ys.length ≤ xs.length := by omega) (hne : xs ≠ [])
    (hxs : xs.take k ++ ys ++ xs.drop (k + ys.length) = xs') (hu : Upd M (RowV v E xs) M' (RowV v E xs') := by (repeat (first | exact Upd.head | apply Upd.tail)); first | done | fail) : OpM P F M o Unit (fun _ => Is (.int .i64 ys.length)) (fun _ => M') := by
  subst hxs
  refine ⟨fun tm w V hf hh hm => ?_⟩
  have hx' : ∃ g n c, v = .slice (some ⟨g, 0, none⟩) n c ∧ ev tm x = .slice (some (if c = k then ⟨g, 0, none⟩ else ⟨g, k * Enc.sz α, none⟩)) (n - k) (c - k) := by
    rcases hx with hx | ⟨rfl, hx⟩
    · exact hx.h tm V (hf _ (by simp [ho, Op.operands, Call.operands]))
    · obtain ⟨g, c, _, h, _⟩ := RowV.some (hm.all _ hu.mem) hne
      have hv := ot_is hx hf (by simp [ho, Op.operands, Call.operands])
      exact ⟨g, _, c, h, by rw [hv, h]; simp⟩
  obtain ⟨b, n0, c0, h1, h2⟩ := hx'
  have hys := hy.h tm V (hf _ (by simp [ho, Op.operands, Call.operands]))
  obtain ⟨a, len, cap, h3, hlen, _⟩ := id hys
  rw [h3] at hys
  obtain ⟨news, n1, n2, n3, n4, n5, n6⟩ := sl_cells hys hh
  subst n2
  obtain ⟨b', cap', cs, g3, g4, hV, hid, g6, g7, g8, g5⟩ := RowV.some (hm.all _ hu.mem) hne
  obtain ⟨rfl, rfl, rfl⟩ : b = b' ∧ n0 = xs.length ∧ c0 = cap' := by rw [h1] at g3; simpa using g3
  have hcap : xs.length * Enc.sz α ≤ c0 * Enc.sz α := Nat.mul_le_mul_right _ g6
  have hkm : (k + ys.length) * Enc.sz α ≤ xs.length * Enc.sz α := Nat.mul_le_mul_right _ hle
  rw [Nat.add_mul] at hkm
  have hmin : Nat.min ys.length (xs.length - k) = ys.length := Nat.min_eq_left (by omega)
  have hfirst : (Builtin.firstCells (Enc.sz α) ys.length (.slice a ys.length cap)).run P w = .ok news.toArray w := by
    cases a with
    | none =>
      have h0 := n4 rfl
      have : news = [] := List.eq_nil_of_length_eq_zero (by rw [n1, h0]; simp)
      subst this
      simp [Builtin.firstCells]
    | some a' =>
      have := run_firstCells_some (P := P) (w := w) (Enc.sz α) ys.length a' ys.length cap news n1 (n3 a' rfl)
      exact this
  have hoff : ys.length = 0 ∨ (if c0 = k then (⟨b, 0, none⟩ : Addr) else ⟨b, k * Enc.sz α, none⟩) = ⟨b, k * Enc.sz α, none⟩ := by
    by_cases h : c0 = k
    · left; omega
    · right; rw [if_neg h]
  have hst : (storeCells (if c0 = k then (⟨b, 0, none⟩ : Addr) else ⟨b, k * Enc.sz α, none⟩) news).run P w = .ok () (w.setRow b (cs.toList.take (k * Enc.sz α) ++ news ++ cs.toList.drop (k * Enc.sz α + ys.length * Enc.sz α)).toArray) := by
    rcases hoff with h0 | h0
    · have : news = [] := List.eq_nil_of_length_eq_zero (by rw [n1, h0]; simp)
      subst this
      rw [h0]
      simp only [Nat.zero_mul, Nat.add_zero, List.append_nil, List.take_append_drop]
      have := setRow_self w b cs E (0, 0) g4
      simp [storeCells, this]
    · rw [h0]
      have := run_storeCells_at P b (k * Enc.sz α) E news 0 cs w g4 (by simp; omega) n5
      simpa [n1] using this
  have hrun : (execOp (ev tm) o).run P w = .ok (.value (.int .i64 ys.length)) (w.setRow b (cs.toList.take (k * Enc.sz α) ++ news ++ cs.toList.drop (k * Enc.sz α + ys.length * Enc.sz α)).toArray) := by
    simp [execOp, ho, resolve, invoke, builtin, h2, h3, Builtin.copy_, run_underlying u.h, Builtin.lenOf, s.h w, hmin, hfirst, hst, goInt]
  unfold OpRuns
  rw [hrun]
  have hid' : (RowV v E (xs.take k ++ ys ++ xs.drop (k + ys.length))).id = some b := hid
  have hl : (xs.take k ++ ys ++ xs.drop (k + ys.length)).length = xs.length := by simp; omega
  have hmem := hm.upd hu (b := b) (w' := w.setRow b (cs.toList.take (k * Enc.sz α) ++ news ++ cs.toList.drop (k * Enc.sz α + ys.length * Enc.sz α)).toArray) hid hid' (fun j hj => setRow_other w b j _ hj) (setRow_heap w b cs _ E (0, 0) g4)
    (.inr ⟨b, c0, _, by rw [h1, hl], rfl, by omega, g7, by simp [n1]; omega, fun i U e' => by
      have l1 : (cs.toList.take (k * Enc.sz α)).length = k * Enc.sz α := by simp; omega
      have l2 : ((xs.take k).flatMap Enc.ty).length = k * Enc.sz α := by rw [length_flatMap, List.length_take, Nat.min_eq_left (by omega)]
      have l3 : (ys.flatMap Enc.ty).length = ys.length * Enc.sz α := length_flatMap ys
      rw [List.flatMap_append, List.flatMap_append, List.append_assoc] at e'
      rw [List.getElem?_toArray, List.append_assoc]
      by_cases hi : i < k * Enc.sz α
      · rw [List.getElem?_append_left (by omega), ← flatMap_take, List.getElem?_take, if_pos hi] at e'
        obtain ⟨c, e1, e2⟩ := g5 i U e'
        exact ⟨c, by rw [List.getElem?_append_left (by omega), List.getElem?_take, if_pos hi]; simpa using e1, e2⟩
      · rw [List.getElem?_append_right (by omega), l2] at e'
        by_cases hj : i - k * Enc.sz α < ys.length * Enc.sz α
        · rw [List.getElem?_append_left (by omega)] at e'
          obtain ⟨c, e1, e2⟩ := n6 _ U e'
          exact ⟨c, by rw [List.getElem?_append_right (by omega), l1, List.getElem?_append_left (by omega)]; exact e1, e2⟩
        · rw [List.getElem?_append_right (by omega), l3, ← flatMap_drop, List.getElem?_drop, Nat.add_mul] at e'
          obtain ⟨c, e1, e2⟩ := g5 _ U e'
          exact ⟨c, by rw [List.getElem?_append_right (by omega), l1, List.getElem?_append_right (by omega), n1, List.getElem?_drop]; simpa using e1, e2⟩⟩)
  exact ⟨(), V, evo_upd hh (mem_ids.2 ⟨_, hu.mem, hid⟩) hV rfl rfl rfl (by simp) (fun j hj => setRow_other w b j _ hj), rfl, hmem.1, fun b' hb' => .inl (hmem.2 ▸ hb')⟩

theorem t_max {x y : Operand} {t : TypeId} {a b : Int} (ho : o.op = .call { callee := .builtin .max, args := #[x, y], argTypes := #[t, t] } := by rfl) (hx : OT F x (Is (.int .i64 a)) := by first | exact ot_tmp rfl | exact ot_const | exact ot_when rfl (by assumption)) (hy : OT F y (Is (.int .i64 b)) := by first | exact ot_tmp rfl | exact ot_const | exact ot_when rfl (by assumption)) :
    OpT P F M o (Is (.int .i64 (if b > a then b else a))) :=
  opT_val fun tm V w hf _ _ => by
    have h1 := ot_is hx hf (by simp [ho, Op.operands, Call.operands])
    have h2 := ot_is hy hf (by simp [ho, Op.operands, Call.operands])
    exact ⟨_, by simp [execOp, ho, resolve, invoke, builtin, h1, h2, Builtin.max_, Builtin.max2], rfl⟩
/-- A literal, as a row that may turn. -/
theorem m_buildRow {α : Type} [Enc α] {xs : List α} {ps : List (Nat × Operand)} {t e : TypeId} {n sz by_ : Nat} (ho : o.op = .buildSlice t n ps.toArray := by rfl)
    (hp : OPs F ps 0 xs := by (repeat (first | exact OPs.nil | apply OPs.cons (by first | exact ot_tmp rfl | exact ot_const | exact ot_when rfl (by first | assumption | (simp_all; done))))); first | done | fail)
    (u : UndT P t (.slice e) := by infer_instance) (el : ElemT P e sz by_ := by infer_instance) (hsz : sz = Enc.sz α := by rfl) (hn : xs.length = n := by rfl) (hsm : n * Enc.sz α ≤ 16777216 := by decide) : OpM P F M o Value Is (fun v => RowV v e xs :: M) := by
  subst hsz
  subst hn
  obtain ⟨inf, z, hi, hz, hsize, hby, hzs⟩ := el.h
  refine ⟨fun tm w V hf hh hm => ?_⟩
  obtain ⟨vs, h1, h2, h3, _, h5⟩ := hp.vals (t := tm) (V := V) (fun p hp => hf p.2 (by simp only [ho, Op.operands]; simp; exact ⟨_, hp⟩))
  have hpos := Enc.pos (α := α)
  let zeros : Array Value := (Array.range (xs.length * Enc.sz α)).map ((if xs.length * Enc.sz α = 0 then #[] else z.cells)[· % (if xs.length * Enc.sz α = 0 then #[] else z.cells).size]!)
  have hzl : zeros.size = xs.length * Enc.sz α := by simp [zeros]
  obtain ⟨r, hr1, hr2⟩ := fill_seq (Enc.sz α) vs 0 zeros h3 (by rw [hzl, h2]; simp)
  have hr : r.toList = vs.flatMap (·.cells.toList) := by
    rw [hr2]
    simp only [Nat.zero_mul, List.take_zero, List.nil_append, Nat.zero_add, h2]
    rw [List.drop_of_length_le (by simp [hzl]), List.append_nil]
  have hlen : (vs.flatMap (·.cells.toList)).length = xs.length * Enc.sz α := by
    have : ∀ (l : List Value), (∀ v ∈ l, v.cells.size = Enc.sz α) → (l.flatMap (·.cells.toList)).length = l.length * Enc.sz α := by
      intro l
      induction l with
      | nil => intro _; simp
      | cons a l ih => intro h; simp [List.flatMap_cons, ih (fun v hv => h v (by simp [hv])), h a (by simp), Nat.succ_mul, Nat.add_comm]
    rw [this vs h3, h2]
  unfold OpRuns
  have hrun : (execOp (ev tm) o).run P w = .ok (.value (.slice (some ⟨w.heap.size, 0, none⟩) xs.length xs.length)) { w with heap := w.heap.push (.cells r e) } := by
    have hps : (ps.toArray.map fun x => (x.1, ev tm x.2)).toList = (vs.zipIdx 0).map fun x => (x.2, x.1) := by simpa using h1
    simp only [execOp, ho, Instr.buildSlice, Sem.run_bind, run_underlying u.h, Result.andThen_ok, sizeOf, typeInfo]
    simp only [program, Sem.run, hi, hsize, Result.andThen_ok, Sem.run_pure]
    rw [if_neg (by omega)]
    by_cases h0 : xs.length * Enc.sz α = 0
    · rw [if_pos h0]
      have h7 := hr1
      simp only [zeros, if_pos h0] at h7
      simp only [Sem.run_bind, Sem.run_pure, Result.andThen_ok, hps, h7]
      simp [newRow, newObj, Sem.run]
    · rw [if_neg h0]
      have h7 := hr1
      simp only [zeros, if_neg h0] at h7
      have h8 : (zeroValue e).run P w = .ok z w := by simp [zeroValue, typeInfo, hi, hz]
      simp only [Sem.run_bind, Sem.run_pure, Result.andThen_ok, h8, hps, h7]
      simp [newRow, newObj, Sem.run]
  rw [hrun]
  have hcell : ∀ (i : Nat) (T : Ty), (xs.flatMap Enc.ty)[i]? = some T → ∃ c, r[i]? = some c ∧ T.p c V := fun i T e' => by
    obtain ⟨c, e1, e2⟩ := h5 i T e'
    refine ⟨c, ?_, e2⟩
    rw [← hr] at e1
    simpa using e1
  have hrs : r.size = xs.length * Enc.sz α := by rw [← Array.length_toList, hr, hlen]
  have hx63 : xs.length ≤ 9223372036854775807 := by
    have : xs.length ≤ xs.length * Enc.sz α := Nat.le_mul_of_pos_right _ hpos
    omega
  have hrp : (RowV (.slice (some ⟨w.heap.size, 0, none⟩) xs.length xs.length) e xs).p (some (.cells r e)) V := .inr ⟨w.heap.size, xs.length, r, rfl, rfl, Nat.le_refl _, hx63, hrs, hcell⟩
  refine ⟨_, V, evo_push_hidden hh _, rfl, hm.push hh (r := RowV (.slice (some ⟨w.heap.size, 0, none⟩) xs.length xs.length) e xs) rfl hrp, fun b' hb' => ?_⟩
  rw [ids_cons_some rfl] at hb'
  rcases List.mem_cons.1 hb' with rfl | h
  · exact .inr (Nat.le_refl _)
  · exact .inl h

theorem opM_mem {φ : Prop} {β : Type} {T : β → Ty} {M' : β → List Res} (hφ : ∀ w V, Mem M w V → φ) (h : φ → OpM P F M o β T M') : OpM P F M o β T M' :=
  ⟨fun t w V hf hh hm => (h (hφ w V hm)).h t w V hf hh hm⟩
theorem opT_mem {φ : Prop} (hφ : ∀ w V, Mem M w V → φ) (h : φ → OpT P F M o T) : OpT P F M o T :=
  ⟨fun t w V hf hh hm => (h (hφ w V hm)).h t w V hf hh hm⟩
/-- A row's value fills one cell. -/
theorem row_one {α : Type} [Enc α] {v : Value} {E : TypeId} {xs : List α} (h : RowV v E xs ∈ M) : ∀ w V, Mem M w V → v.oneCell' = true := fun w V hm => by
  obtain ⟨a, c, h1, _⟩ := RowV.len (hm.all _ h)
  rw [h1]; rfl
/-- A store of a row's slice. -/
theorem m_store_row {α : Type} [Enc α] {xs : List α} {v : Value} {E' : TypeId} {x y : Operand} {t : TypeId} {b off : Nat} {E : TypeId} {Ts Ts' : List Ty} {M' : List Res} (hm : RowV v E' xs ∈ M) (ho : o.op = .store t x y := by rfl) (hx : OT F x (Is (.pointer (some ⟨b, off, none⟩))) := by first | exact ot_tmp rfl)
    (hy : OT F y (Is v) := by first | exact ot_tmp rfl) (s : SizeT P t 1 := by infer_instance) (hu : Upd M (Cells b E Ts) M' (Cells b E Ts') := by (repeat (first | exact Upd.head | apply Upd.tail)); first | done | fail) (hT : Ts.set off (Is v) = Ts' := by rfl) (hn : off < Ts.length := by first | exact Nat.le_of_ble_eq_true rfl | decide) :
    OpM P F M o Unit (fun _ => anyTy) (fun _ => M') :=
  opM_mem (row_one hm) fun hv => m_store_one ho hx hy (scal_is hv) s hu hT hn
end

section
variable {P : Program} {C : Ctx} {b : Base} {n : Nat} {ds : List Deferred} {k : List Item} {F : List (Nat × Ty)} {M : List Res} {R : Value → World → Prop} {ops l : List Oper} {i : Nat} {todo : List Item}
theorem Mem.perm {M M' : List Res} {w : World} {V : View} (h : Mem M w V) (hp : M.Perm M') : Mem M' w V :=
  ⟨(hp.filterMap _).nodup_iff.1 h.nodup, fun r hr => h.all r (hp.mem_iff.2 hr)⟩
theorem e_perm {M' : List Res} (hp : M.Perm M') : Ent C F M F M' := fun _ _ V h1 h2 h3 h4 => ⟨V, h1, h2, h3.perm hp, fun b' hb' => h4 b' ((hp.filterMap _).mem_iff.2 hb')⟩
theorem Del.perm {M M' : List Res} {r : Res} (hd : Del M r M') : M.Perm (r :: M') := by
  induction hd with
  | head => exact .refl _
  | @tail r x M M' _ ih => exact (ih.cons x).trans (.swap r x M')
/-- One resource to the front. -/
theorem e_front {r : Res} {M' : List Res} (hd : Del M r M' := by (repeat (first | exact Del.head | apply Del.tail)); first | done | fail) : Ent C F M F (r :: M') := e_perm hd.perm
end

theorem res_zero {P : Program} {F : List (Nat × Ty)} {M : List Res} {fn : Func} (hr : fn.results = #[]) : ResT P fn F M anyTy := .mk fun _ _ _ _ _ _ => ⟨.tuple #[], by simp [results, hr], trivial⟩
end Go.Rt
