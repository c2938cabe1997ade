/- Resources: blocks that may turn. New variables, stores, slices under construction; handing a block over to what turns no more. -/
import Derived.Test.YtkoinfegbkigcaaRtG
namespace Go.Rt

/-- A block of cells, each of its type. -/
def Cells (b : Nat) (E : TypeId) (Ts : List Ty) : Res :=
  ⟨some b, fun o V => ∃ cs, o = some (.cells cs E (0, 0)) ∧ cs.size = Ts.length ∧ ∀ (i : Nat) (T : Ty), Ts[i]? = some T → ∃ c, cs[i]? = some c ∧ T.p c V,
   fun _ _ _ hl ⟨cs, h1, h2, h3⟩ => ⟨cs, h1, h2, fun i T e => let ⟨c, h4, h5⟩ := h3 i T e; ⟨c, h4, T.mono _ _ _ hl h5⟩⟩⟩

/-- A slice that is nil or the whole of a block of its own, spare capacity behind its elements. -/
def RowV {α : Type} [Enc α] (v : Value) (E : TypeId) (xs : List α) : Res :=
  ⟨v.ownBlock, fun o V => (o = none ∧ v = .slice none 0 0 ∧ xs = []) ∨
      ∃ g cap cs, v = .slice (some ⟨g, 0, none⟩) xs.length cap ∧ o = some (.cells cs E (0, 0)) ∧ xs.length ≤ cap ∧ cap ≤ 9223372036854775807 ∧ cs.size = cap * Enc.sz α ∧
        ∀ (i : Nat) (T : Ty), (xs.flatMap Enc.ty)[i]? = some T → ∃ c, cs[i]? = some c ∧ T.p c V,
   fun _ _ _ hl h => h.imp id fun ⟨g, cap, cs, h1, h2, h3, h4, h5, h6⟩ => ⟨g, cap, cs, h1, h2, h3, h4, h5, fun i T e => let ⟨c, h7, h8⟩ := h6 i T e; ⟨c, h7, T.mono _ _ _ hl h8⟩⟩⟩

/-- M' is M with r' in r's place. -/
inductive Upd : List Res → Res → List Res → Res → Prop
  | head {r r' : Res} {M : List Res} : Upd (r :: M) r (r' :: M) r'
  | tail {r r' x : Res} {M M' : List Res} : Upd M r M' r' → Upd (x :: M) r (x :: M') r'

theorem Upd.mem {M M' : List Res} {r r' : Res} (h : Upd M r M' r') : r ∈ M := by
  induction h with
  | head => simp
  | tail _ ih => simp [ih]

theorem Upd.mem' {M M' : List Res} {r r' : Res} (h : Upd M r M' r') : ∀ x ∈ M', x = r' ∨ x ∈ M := by
  induction h with
  | head => intro x hx; rcases List.mem_cons.1 hx with h | h <;> simp [h]
  | tail _ ih =>
    intro x hx
    rcases List.mem_cons.1 hx with h | h
    · simp [h]
    · rcases ih x h with h1 | h1 <;> simp [h1]

theorem ids_cons_some {r : Res} {M : List Res} {b : Nat} (h : r.id = some b) : ids (r :: M) = b :: ids M := by simp [ids, h]
theorem ids_cons_none {r : Res} {M : List Res} (h : r.id = none) : ids (r :: M) = ids M := by simp [ids, h]

/-- A new resource, its block made just now. -/
theorem Mem.push {M : List Res} {w : World} {V : View} (hh : Has w V) (hm : Mem M w V) {ob : Obj} {r : Res} (hid : r.id = some w.heap.size) (hr : r.p (some ob) V) : Mem (r :: M) { w with heap := w.heap.push ob } V := by
  have hn : V w.heap.size = none := by
    cases hv : V w.heap.size with
    | none => rfl
    | some o => exact absurd (hh.lt hv) (by omega)
  refine ⟨?_, ?_⟩
  · rw [ids_cons_some hid]
    exact List.nodup_cons.2 ⟨fun h => absurd (hm.lt h) (by omega), hm.nodup⟩
  · intro x hx
    rcases List.mem_cons.1 hx with rfl | hx
    · unfold Res.at; rw [hid]; exact ⟨ob, by simp, hn, hr⟩
    · refine Res.at_evo (hm.all x hx) (View.Le.refl _) (fun b hb => ?_) (fun b hb => rfl)
      have := Res.at_lt (hm.all x hx) hb
      simp [Array.getElem?_push, Nat.ne_of_lt this]

theorem evo_push_hidden {X : List Nat} {w : World} {V : View} (hh : Has w V) (ob : Obj) : Evo X w V { w with heap := w.heap.push ob } V :=
  ⟨rfl, rfl, rfl, by simp, fun k hk _ => by simp [Array.getElem?_push, Nat.ne_of_lt hk], fun _ _ => rfl, fun k o e => by
    have := hh k o e
    have hlt := hh.lt e
    simp [Array.getElem?_push, Nat.ne_of_lt hlt, this]⟩

/-- One resource's block turns. -/
theorem Mem.upd {M M' : List Res} {r r' : Res} {w w' : World} {V : View} {b : Nat} (hm : Mem M w V) (hu : Upd M r M' r') (hid : r.id = some b) (hid' : r'.id = some b)
    (hother : ∀ k, k ≠ b → w'.heap[k]? = w.heap[k]?) {ob : Obj} (hb : w'.heap[b]? = some ob) (hr : r'.p (some ob) V) : Mem M' w' V ∧ ids M' = ids M := by
  have hV : V b = none := hm.hidden (mem_ids.2 ⟨r, hu.mem, hid⟩)
  have hr' : r'.at w' V := by unfold Res.at; rw [hid']; exact ⟨ob, hb, hV, hr⟩
  have key : ∀ {M M' : List Res} {r r' : Res}, Upd M r M' r' → r.id = some b → r'.id = some b → (ids M).Nodup → (∀ x ∈ M, x.at w V) → r'.at w' V → (∀ x ∈ M', x.at w' V) ∧ ids M' = ids M := by
    intro M M' r r' hu
    induction hu with
    | @head r r' M =>
      intro hid hid' hnd hall hr'
      refine ⟨?_, by rw [ids_cons_some hid, ids_cons_some hid']⟩
      intro x hx
      rcases List.mem_cons.1 hx with rfl | hx
      · exact hr'
      · rw [ids_cons_some hid] at hnd
        have hni := (List.nodup_cons.1 hnd).1
        refine Res.at_evo (hall x (by simp [hx])) (View.Le.refl _) (fun b' hb' => ?_) (fun _ _ => rfl)
        exact hother b' fun e => hni (e ▸ mem_ids.2 ⟨x, hx, hb'⟩)
    | @tail r r' x M M' hu ih =>
      intro hid hid' hnd hall hr'
      have hnd' : (ids M).Nodup := by
        unfold ids at *
        rw [List.filterMap_cons] at hnd
        split at hnd
        · exact hnd
        · exact (List.nodup_cons.1 hnd).2
      obtain ⟨h1, h2⟩ := ih hid hid' hnd' (fun y hy => hall y (by simp [hy])) hr'
      refine ⟨?_, ?_⟩
      · intro y hy
        rcases List.mem_cons.1 hy with rfl | hy
        · refine Res.at_evo (hall y (by simp)) (View.Le.refl _) (fun b' hb' => ?_) (fun _ _ => rfl)
          refine hother b' fun e => ?_
          subst e
          rw [ids_cons_some hb'] at hnd
          exact (List.nodup_cons.1 hnd).1 (mem_ids.2 ⟨r, hu.mem, hid⟩)
        · exact h1 y hy
      · unfold ids at *
        rw [List.filterMap_cons, List.filterMap_cons, h2]
  obtain ⟨h1, h2⟩ := key hu hid hid' hm.nodup hm.all hr'
  exact ⟨⟨by rw [h2]; exact hm.nodup, h1⟩, h2⟩

theorem evo_upd {X : List Nat} {w w' : World} {V : View} {b : Nat} (hh : Has w V) (hb : b ∈ X) (hV : V b = none) (hos : w'.os = w.os) (htape : w'.tape = w.tape) (hout : w'.output = w.output) (hs : w'.heap.size = w.heap.size)
    (hother : ∀ k, k ≠ b → w'.heap[k]? = w.heap[k]?) : Evo X w V w' V :=
  ⟨hos, htape, hout, by omega, fun k _ hx => hother k fun e => hx (e ▸ hb), fun _ _ => rfl, fun k o e => by
    rw [hother k fun h => by subst h; rw [hV] at e; cases e]; exact hh k o e⟩

section
variable {P : Program} {F : List (Nat × Ty)} {M : List Res} {o : Oper} {T : Ty}

theorem m_alloc {t : TypeId} {z : Value} {Ts : List Ty} (ho : o.op = .alloc t := by rfl) (g : ZeroT P t z := by infer_instance) (hT : z.cells.toList.map Is = Ts := by first | (simp only [Value.cells, List.toList_toArray, List.map_cons, List.map_nil, List.take_succ_cons, List.take_zero, List.drop_succ_cons, List.drop_zero, List.nil_append, List.cons_append, List.append_nil, List.length_cons, List.length_nil, Nat.zero_add, Nat.reduceAdd, List.set_cons_zero, List.set_cons_succ, List.append_assoc]; exact rfl) | exact rfl) : OpM P F M o Nat (fun b => Is (.pointer (some ⟨b, 0, none⟩))) (fun b => Cells b t Ts :: M) := by
  subst hT
  refine ⟨fun tm w V hf hh hm => ?_⟩
  unfold OpRuns
  have : (execOp (ev tm) o).run P w = .ok (.value (.pointer (some ⟨w.heap.size, 0, none⟩))) { w with heap := w.heap.push (.cells z.cells t) } := by
    simp [execOp, ho, Instr.alloc, newVar, newRow, newObj, Sem.run, g.h]
  rw [this]
  refine ⟨w.heap.size, V, evo_push_hidden hh _, rfl, hm.push hh rfl ⟨z.cells, rfl, by simp, fun i T e => ?_⟩, ?_⟩
  · rw [List.getElem?_map] at e
    cases hc : z.cells.toList[i]? with
    | none => rw [hc] at e; cases e
    | some c => rw [hc] at e; cases e; exact ⟨c, by simpa using hc, rfl⟩
  · intro b hb
    rw [ids_cons_some (r := Cells w.heap.size t _) rfl] at hb
    rcases List.mem_cons.1 hb with rfl | hb
    · exact .inr (Nat.le_refl _)
    · exact .inl hb

/-- A cell of a block that may turn. -/
theorem Cells.load {b : Nat} {E : TypeId} {Ts : List Ty} {w : World} {V : View} (h : (Cells b E Ts).at w V) {i : Nat} {T : Ty} (e : Ts[i]? = some T) : ∃ c, w.cell? ⟨b, i, none⟩ = some c ∧ T.p c V := by
  obtain ⟨o, h1, h2, cs, h3, h4, h5⟩ := h
  cases h3
  obtain ⟨c, h6, h7⟩ := h5 i T e
  exact ⟨c, by simp [World.cell?, h1, h6], h7⟩

theorem add_mk (b off n : Nat) : (⟨b, off, none⟩ : Addr).add n = ⟨b, off + n, none⟩ := by unfold Addr.add; split <;> simp_all

theorem t_loadM_one {x : Operand} {t : TypeId} {b off : Nat} {E : TypeId} {Ts : List Ty} (ho : o.op = .load t x := by rfl) (hx : OT F x (Is (.pointer (some ⟨b, off, none⟩))) := by first | exact ot_tmp rfl | exact ot_when rfl (by first | assumption | (simp_all; done)))
    (g : AggT P t false := by infer_instance) (hm : Cells b E Ts ∈ M := by (repeat (first | exact List.Mem.head _ | apply List.Mem.tail)); first | done | fail) (hT : Ts[off]? = some T := by rfl) : OpT P F M o T :=
  opT_val fun tm V w hf hh hmem => by
    have h1 : ev tm x = .pointer (some ⟨b, off, none⟩) := hx.h tm V (hf _ (by simp [ho, Op.operands]))
    obtain ⟨c, h3, h4⟩ := Cells.load (hmem.all _ hm) hT
    exact ⟨c, by simp [execOp, ho, h1, Instr.loadAt, Instr.sureAddr, loadVar, g.h w, h3], h4⟩

theorem t_loadM_agg {x : Operand} {t : TypeId} {b off n : Nat} {E : TypeId} {Ts Us : List Ty} (ho : o.op = .load t x := by rfl) (hx : OT F x (Is (.pointer (some ⟨b, off, none⟩))) := by first | exact ot_tmp rfl | exact ot_when rfl (by first | assumption | (simp_all; done)))
    (g : AggT P t true := by infer_instance) (s : SizeT P t n := by infer_instance) (hm : Cells b E Ts ∈ M := by (repeat (first | exact List.Mem.head _ | apply List.Mem.tail)); first | done | fail) (hn : off + n ≤ Ts.length := by first | exact Nat.le_of_ble_eq_true rfl | decide) (hU : (Ts.drop off).take n = Us := by rfl) : OpT P F M o (Agg Us) :=
  opT_val fun tm V w hf hh hmem => by
    have h1 : ev tm x = .pointer (some ⟨b, off, none⟩) := hx.h tm V (hf _ (by simp [ho, Op.operands]))
    obtain ⟨l, h2, h3⟩ := choose_list (p := fun i c => w.cell? ⟨b, off + i, none⟩ = some c ∧ ∀ T : Ty, Ts[off + i]? = some T → T.p c V) undef n (fun i hi => by
      obtain ⟨c, h4, h5⟩ := Cells.load (hmem.all _ hm) (List.getElem?_eq_getElem (show off + i < Ts.length by omega))
      exact ⟨c, h4, fun T e => by rw [List.getElem?_eq_getElem (show off + i < Ts.length by omega)] at e; cases e; exact h5⟩)
    have hl : (loadCells ⟨b, off, none⟩ n).run P w = .ok l.toArray w := by
      rw [← h2]
      refine run_loadCells_list w _ l fun j v hv => ?_
      have hj : j < n := by rw [← h2]; exact (List.getElem?_eq_some_iff.1 hv).1
      rw [add_mk]
      have := (h3 j hj).1
      simpa [List.getD, hv] using this
    refine ⟨.agg l.toArray, by simp [execOp, ho, h1, Instr.loadAt, Instr.sureAddr, loadVar, g.h w, s.h w, hl], l.toArray, rfl, ?_, ?_⟩
    · subst hU; simp [h2]; omega
    · intro i T e
      subst hU
      rw [List.getElem?_take] at e
      split at e
      · rename_i hi
        rw [List.getElem?_drop] at e
        refine ⟨l.getD i undef, ?_, (h3 i hi).2 T e⟩
        simp [List.getD, List.getElem?_eq_getElem (show i < l.length by omega)]
      · cases e

theorem t_fieldM {x : Operand} {t : TypeId} {f off k b : Nat} (ho : o.op = .fieldAddr t x f := by rfl) (hx : OT F x (Is (.pointer (some ⟨b, k, none⟩))) := by first | exact ot_tmp rfl | exact ot_when rfl (by first | assumption | (simp_all; done)))
    (g : FieldT P t f off := by infer_instance) : OpT P F M o (Is (.pointer (some ⟨b, k + off, none⟩))) :=
  opT_val fun tm V w hf _ _ => by
    have h1 : ev tm x = .pointer (some ⟨b, k, none⟩) := hx.h tm V (hf _ (by simp [ho, Op.operands]))
    exact ⟨_, by simp [execOp, ho, h1, g.h, add_mk], rfl⟩

/-- A store into a block that may turn: one cell. -/
theorem m_store_one {x y : Operand} {t : TypeId} {b off : Nat} {E : TypeId} {Ts Ts' : List Ty} {M' : List Res} (ho : o.op = .store t x y := by rfl) (hx : OT F x (Is (.pointer (some ⟨b, off, none⟩))) := by first | exact ot_tmp rfl)
    (hy : OT F y T := by first | exact ot_tmp rfl | exact ot_const | exact ot_func) (hS : Scal T := by first | exact scal_is rfl | exact scal_sl _ | exact scal_slf _ | exact scal_ptr _) (s : SizeT P t 1 := by infer_instance) (hu : Upd M (Cells b E Ts) M' (Cells b E Ts') := by (repeat (first | exact Upd.head | apply Upd.tail)); first | done | fail) (hT : Ts.set off T = Ts' := by first | (simp only [Value.cells, List.toList_toArray, List.map_cons, List.map_nil, List.take_succ_cons, List.take_zero, List.drop_succ_cons, List.drop_zero, List.nil_append, List.cons_append, List.append_nil, List.length_cons, List.length_nil, Nat.zero_add, Nat.reduceAdd, List.set_cons_zero, List.set_cons_succ, List.append_assoc]; exact rfl) | exact rfl) (hn : off < Ts.length := by first | exact Nat.le_of_ble_eq_true rfl | decide) :
    OpM P F M o Unit (fun _ => anyTy) (fun _ => M') := by
  subst hT
  refine ⟨fun tm w V hf hh hm => ?_⟩
  have h1 : ev tm x = .pointer (some ⟨b, off, none⟩) := hx.h tm V (hf _ (by simp [ho, Op.operands]))
  have h2 := hy.h tm V (hf _ (by simp [ho, Op.operands]))
  have hone := hS _ _ h2
  have hc := cells_one hone
  obtain ⟨ob, g1, g2, cs, g3, g4, g5⟩ := hm.all _ hu.mem
  cases g3
  have hoff : off < cs.size := by omega
  have hrun : (execOp (ev tm) o).run P w = .ok .skip (w.setRow b (cs.set off (ev tm y))) := by
    have hst := run_storeCells_at P b off E [ev tm y] 0 cs w g1 (by simp; omega) (by simpa using hone)
    have e1 : (cs.toList.take (off + 0) ++ [ev tm y] ++ cs.toList.drop (off + 0 + [ev tm y].length)).toArray = cs.set off (ev tm y) := by
      apply Array.ext'
      simp [List.set_eq_take_append_cons_drop, hoff]
    rw [e1] at hst
    simp [execOp, ho, h1, Instr.storeAt, Instr.sureAddr, storeVar, s.h w, hc, hst]
  unfold OpRuns
  rw [hrun]
  have hmem := hm.upd hu (b := b) (w' := w.setRow b (cs.set off (ev tm y))) rfl rfl (fun k hk => setRow_other w b k _ hk) (setRow_heap w b cs _ E (0, 0) g1)
    ⟨_, rfl, by simp [g4], fun i U e => by
      rw [List.getElem?_set] at e
      rw [Array.getElem?_set]
      split at e
      · rename_i hi; subst hi
        rw [if_pos rfl]
        first
        | (split at e
           · cases e; exact ⟨_, rfl, h2⟩
           · cases e)
        | (cases e; exact ⟨_, rfl, h2⟩)
      · rename_i hi
        rw [if_neg hi]
        exact g5 i U e⟩
  exact ⟨(), V, evo_upd hh (mem_ids.2 ⟨_, hu.mem, rfl⟩) g2 rfl rfl rfl (by simp) (fun k hk => setRow_other w b k _ hk), trivial, hmem.1, fun b' hb' => .inl (hmem.2 ▸ hb')⟩

/-- A store of a struct or an array. -/
theorem m_store_agg {x y : Operand} {t : TypeId} {b off n : Nat} {E : TypeId} {Ts Us Ts' : List Ty} {M' : List Res} (ho : o.op = .store t x y := by rfl) (hx : OT F x (Is (.pointer (some ⟨b, off, none⟩))) := by first | exact ot_tmp rfl)
    (hy : OT F y (Agg Us) := by first | exact ot_tmp rfl) (hS : ∀ T ∈ Us, Scal T := by first | exact Enc.scal _ | ((repeat (first | exact List.forall_mem_nil _ | refine List.forall_mem_cons.2 ⟨by first | exact scal_is rfl | exact scal_sl _ | exact scal_slf _ | exact scal_ptr _, ?_⟩)); first | done | fail)) (s : SizeT P t n := by infer_instance) (hU : Us.length = n := by rfl) 
    (hu : Upd M (Cells b E Ts) M' (Cells b E Ts') := by (repeat (first | exact Upd.head | apply Upd.tail)); first | done | fail) (hn : off + n ≤ Ts.length := by first | exact Nat.le_of_ble_eq_true rfl | decide) (hT : Ts.take off ++ Us ++ Ts.drop (off + n) = Ts' := by first | (simp only [Value.cells, List.toList_toArray, List.map_cons, List.map_nil, List.take_succ_cons, List.take_zero, List.drop_succ_cons, List.drop_zero, List.nil_append, List.cons_append, List.append_nil, List.length_cons, List.length_nil, Nat.zero_add, Nat.reduceAdd, List.set_cons_zero, List.set_cons_succ, List.append_assoc]; exact rfl) | exact rfl) :
    OpM P F M o Unit (fun _ => anyTy) (fun _ => M') := by
  subst hT
  refine ⟨fun tm w V hf hh hm => ?_⟩
  have h1 : ev tm x = .pointer (some ⟨b, off, none⟩) := hx.h tm V (hf _ (by simp [ho, Op.operands]))
  obtain ⟨vs, h2, h3, h4⟩ := hy.h tm V (hf _ (by simp [ho, Op.operands]))
  obtain ⟨ob, g1, g2, cs, g3, g4, g5⟩ := hm.all _ hu.mem
  cases g3
  have hone : ∀ v ∈ vs.toList, v.oneCell' = true := by
    intro v hv
    obtain ⟨i, hi⟩ := List.getElem?_of_mem hv
    have hil : i < Us.length := by rw [← h3]; simpa using (List.getElem?_eq_some_iff.1 hi).1
    obtain ⟨c, e1, e2⟩ := h4 i _ (List.getElem?_eq_getElem hil)
    have : v = c := by have : vs[i]? = some v := by simpa using hi
                       rw [e1] at this; exact (Option.some.inj this).symm
    subst this
    exact hS _ (List.getElem_mem hil) _ _ e2
  have hrun : (execOp (ev tm) o).run P w = .ok .skip (w.setRow b (cs.toList.take off ++ vs.toList ++ cs.toList.drop (off + n)).toArray) := by
    have hst := run_storeCells_at P b off E vs.toList 0 cs w g1 (by simp; omega) hone
    simp only [Nat.add_zero, Array.length_toList, h3, hU] at hst
    simp [execOp, ho, h1, Instr.storeAt, Instr.sureAddr, storeVar, s.h w, h2, Value.cells, h3, hU, hst]
  unfold OpRuns
  rw [hrun]
  have hmem := hm.upd hu (b := b) (w' := w.setRow b (cs.toList.take off ++ vs.toList ++ cs.toList.drop (off + n)).toArray) rfl rfl (fun k hk => setRow_other w b k _ hk) (setRow_heap w b cs _ E (0, 0) g1)
    ⟨_, rfl, by simp; omega, fun i U e => by
      have l1 : (cs.toList.take off).length = off := by simp; omega
      have l2 : (Ts.take off).length = off := by simp; omega
      have l3 : vs.toList.length = n := by simp [h3, hU]
      rw [List.append_assoc] at e
      by_cases hi : i < off
      · rw [List.getElem?_append_left (by omega), List.getElem?_take, if_pos hi] at e
        obtain ⟨c, e1, e2⟩ := g5 i U e
        refine ⟨c, ?_, e2⟩
        rw [List.getElem?_toArray, List.append_assoc, List.getElem?_append_left (by omega), List.getElem?_take, if_pos hi]
        simpa using e1
      · rw [List.getElem?_append_right (by omega), l2] at e
        by_cases hj : i - off < n
        · rw [List.getElem?_append_left (by omega)] at e
          obtain ⟨c, e1, e2⟩ := h4 _ U e
          refine ⟨c, ?_, e2⟩
          rw [List.getElem?_toArray, List.append_assoc, List.getElem?_append_right (by omega), l1, List.getElem?_append_left (by omega)]
          simpa using e1
        · rw [List.getElem?_append_right (by omega), hU, List.getElem?_drop] at e
          obtain ⟨c, e1, e2⟩ := g5 _ U e
          refine ⟨c, ?_, e2⟩
          rw [List.getElem?_toArray, List.append_assoc, List.getElem?_append_right (by omega), l1, List.getElem?_append_right (by omega), l3, List.getElem?_drop]
          simpa using e1⟩
  exact ⟨(), V, evo_upd hh (mem_ids.2 ⟨_, hu.mem, rfl⟩) g2 rfl rfl rfl (by simp) (fun k hk => setRow_other w b k _ hk), trivial, hmem.1, fun b' hb' => .inl (hmem.2 ▸ hb')⟩

end
end Go.Rt
