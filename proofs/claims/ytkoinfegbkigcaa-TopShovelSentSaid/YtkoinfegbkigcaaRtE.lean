/- The rules of the operations on memory that turns no more: reads, new boxes, new literals; calls. -/
import Derived.Test.YtkoinfegbkigcaaRtD
namespace Go.Rt
section
variable {P : Program} {F : List (Nat × Ty)} {M : List Res} {o : Oper} {T : Ty}

theorem run_isAgg_of {t : TypeId} {b : Bool} [h : AggT P t b] (w : World) : (isAgg t).run P w = .ok b w := h.h w

theorem choose_list {p : Nat → Value → Prop} (d : Value) : ∀ n, (∀ i, i < n → ∃ c, p i c) → ∃ l : List Value, l.length = n ∧ ∀ i, i < n → p i (l.getD i d)
  | 0, _ => ⟨[], rfl, by omega⟩
  | n + 1, h => by
    obtain ⟨l, h1, h2⟩ := choose_list d n (fun i hi => h i (by omega))
    obtain ⟨c, hc⟩ := h n (by omega)
    refine ⟨l ++ [c], by simp [h1], fun i hi => ?_⟩
    by_cases e : i = n
    · subst e; simpa [List.getD, h1] using hc
    · have := h2 i (by omega)
      simpa [List.getD, List.getElem?_append, h1, show i < n from by omega] using this

theorem Rw.load {V : View} {w : World} {a : Addr} {Ts : List Ty} (h : Rw V a Ts) (hh : Has w V) (n : Nat) (hn : n ≤ Ts.length) :
    ∃ cs : List Value, cs.length = n ∧ (loadCells a n).run P w = .ok cs.toArray w ∧ ∀ (i : Nat) (T : Ty), (Ts.take n)[i]? = some T → ∃ c, cs[i]? = some c ∧ T.p c V := by
  obtain ⟨l, h1, h2⟩ := choose_list (p := fun i c => w.cell? (a.add i) = some c ∧ ∀ T : Ty, Ts[i]? = some T → T.p c V) undef n (fun i hi => by
    obtain ⟨c, h3, h4⟩ := h.cell hh (List.getElem?_eq_getElem (show i < Ts.length by omega))
    exact ⟨c, h3, fun T e => by rw [List.getElem?_eq_getElem (show i < Ts.length by omega)] at e; cases e; exact h4⟩)
  refine ⟨l, h1, ?_, fun i T e => ?_⟩
  · rw [← h1]
    refine run_loadCells_list w a l fun j v hv => ?_
    have hj : j < n := by rw [← h1]; exact (List.getElem?_eq_some_iff.1 hv).1
    have := (h2 j hj).1
    simpa [List.getD, hv] using this
  · rw [List.getElem?_take] at e
    split at e
    · rename_i hi
      refine ⟨l.getD i undef, ?_, (h2 i hi).2 T e⟩
      simp [List.getD, List.getElem?_eq_getElem (show i < l.length by omega)]
    · cases e

theorem t_load_one {Ts : List Ty} {x : Operand} {t : TypeId} (ho : o.op = .load t x := by rfl) (hx : OT F x (PtrTo Ts) := by first | exact ot_tmp rfl | exact ot_const | exact ot_func | exact ot_when rfl (by first | assumption | (simp_all; done)) | exact ot_when_and rfl (by first | assumption | (simp_all; done))) (g : AggT P t false := by infer_instance) (hT : Ts[0]? = some T := by rfl) : OpT P F M o T :=
  opT_val fun tm V w hf hh _ => by
    obtain ⟨a, h1, h2⟩ := hx.h tm V (hf _ (by simp [ho, Op.operands]))
    obtain ⟨c, h3, h4⟩ := h2.cell hh hT
    have h0 : a.add 0 = a := by simp [Addr.add]
    rw [h0] at h3
    refine ⟨c, ?_, h4⟩
    simp [execOp, ho, h1, Instr.loadAt, Instr.sureAddr, loadVar, g.h w, h3]

theorem t_load_agg {Ts Us : List Ty} {x : Operand} {t : TypeId} {n : Nat} (ho : o.op = .load t x := by rfl) (hx : OT F x (PtrTo Ts) := by first | exact ot_tmp rfl | exact ot_const | exact ot_func | exact ot_when rfl (by first | assumption | (simp_all; done)) | exact ot_when_and rfl (by first | assumption | (simp_all; done))) (g : AggT P t true := by infer_instance) (s : SizeT P t n := by infer_instance) (hn : n ≤ Ts.length := by first | exact Nat.le_of_ble_eq_true rfl | decide) (hU : Ts.take n = Us := by rfl) : OpT P F M o (Agg Us) :=
  opT_val fun tm V w hf hh _ => by
    obtain ⟨a, h1, h2⟩ := hx.h tm V (hf _ (by simp [ho, Op.operands]))
    obtain ⟨cs, h3, h4, h5⟩ := h2.load (P := P) hh n hn
    refine ⟨.agg cs.toArray, ?_, cs.toArray, rfl, ?_, ?_⟩
    · simp [execOp, ho, h1, Instr.loadAt, Instr.sureAddr, loadVar, g.h w, s.h w, h4]
    · subst hU; simp [h3]; omega
    · intro i T e
      subst hU
      simpa using h5 i T e

theorem va_agg {α : Type} [Enc α] {x : α} (h : Enc.agg α = true) : Va x = Agg (Enc.ty x) := by unfold Va; rw [h]
theorem va_one {α : Type} [Enc α] {x : α} (h : Enc.agg α = false) : ∃ T, Enc.ty x = [T] ∧ Va x = T := by
  have h1 := Enc.len x
  rw [Enc.one h] at h1
  match hl : Enc.ty x, h1 with
  | [T], _ => exact ⟨T, rfl, by unfold Va; rw [h]; simp [hl]⟩

theorem t_load {α : Type} [Enc α] {x : α} {p : Operand} {t : TypeId} {Ts : List Ty} (ho : o.op = .load t p := by rfl) (hx : OT F p (PtrTo (Enc.ty x ++ Ts)) := by first | exact ot_tmp rfl | exact ot_const | exact ot_func | exact ot_when rfl (by first | assumption | (simp_all; done)) | exact ot_when_and rfl (by first | assumption | (simp_all; done))) (g : GoT P t α := by infer_instance) : OpT P F M o (Va x) :=
  opT_val fun tm V w hf hh _ => by
    obtain ⟨a, h1, h2⟩ := hx.h tm V (hf _ (by simp [ho, Op.operands]))
    cases ha : Enc.agg α with
    | true =>
      obtain ⟨cs, h3, h4, h5⟩ := h2.load (P := P) hh (Enc.sz α) (by rw [List.length_append, Enc.len]; omega)
      have hU : (Enc.ty x ++ Ts).take (Enc.sz α) = Enc.ty x := by rw [← Enc.len x]; exact List.take_left
      rw [hU] at h5
      refine ⟨.agg cs.toArray, ?_, ?_⟩
      · simp [execOp, ho, h1, Instr.loadAt, Instr.sureAddr, loadVar, g.agg w, ha, g.size w, h4]
      · rw [va_agg ha]
        exact ⟨cs.toArray, rfl, by simp [h3, Enc.len], fun i T e => by simpa using h5 i T e⟩
    | false =>
      obtain ⟨T, hT, hV⟩ := va_one (x := x) ha
      obtain ⟨c, h3, h4⟩ := h2.cell hh (i := 0) (T := T) (by simp [hT])
      have h0 : a.add 0 = a := by simp [Addr.add]
      rw [h0] at h3
      exact ⟨c, by simp [execOp, ho, h1, Instr.loadAt, Instr.sureAddr, loadVar, g.agg w, ha, h3], by rw [hV]; exact h4⟩

/-- A struct type's field lies that many cells in. -/
class FieldT (P : Program) (t : TypeId) (f : Nat) (off : outParam Nat) : Prop where
  h : ∀ a w, (Instr.fieldAt t (.pointer (some a)) f).run P w = .ok (.pointer (some (a.add off))) w

theorem t_field {Ts Us : List Ty} {x : Operand} {t : TypeId} {f off : Nat} (ho : o.op = .fieldAddr t x f := by rfl) (hx : OT F x (PtrTo Ts) := by first | exact ot_tmp rfl | exact ot_const | exact ot_func | exact ot_when rfl (by first | assumption | (simp_all; done)) | exact ot_when_and rfl (by first | assumption | (simp_all; done))) (g : FieldT P t f off := by infer_instance) (hU : Ts.drop off = Us := by rfl) : OpT P F M o (PtrTo Us) :=
  opT_val fun tm V w hf _ _ => by
    obtain ⟨a, h1, h2⟩ := hx.h tm V (hf _ (by simp [ho, Op.operands]))
    exact ⟨.pointer (some (a.add off)), by simp [execOp, ho, h1, g.h], a.add off, rfl, hU ▸ h2.drop off⟩

theorem flatMap_drop {α : Type} [Enc α] (xs : List α) : ∀ i, (xs.flatMap Enc.ty).drop (i * Enc.sz α) = (xs.drop i).flatMap Enc.ty := by
  induction xs with
  | nil => intro i; simp
  | cons x xs ih =>
    intro i
    cases i with
    | zero => simp
    | succ i =>
      rw [List.flatMap_cons, Nat.succ_mul, Nat.add_comm (i * Enc.sz α), ← List.drop_drop]
      have : (Enc.ty x ++ xs.flatMap Enc.ty).drop (Enc.sz α) = xs.flatMap Enc.ty := by rw [← Enc.len x]; exact List.drop_left
      rw [this, ih]; rfl

theorem length_flatMap {α : Type} [Enc α] (xs : List α) : (xs.flatMap Enc.ty).length = xs.length * Enc.sz α := by
  induction xs with
  | nil => simp
  | cons x xs ih => simp [List.flatMap_cons, ih, Enc.len, Nat.succ_mul, Nat.add_comm]

theorem sl_at {α : Type} [Enc α] [Inhabited α] {xs : List α} {V : View} {a : Addr} (h : Rw V a (xs.flatMap Enc.ty)) {i : Nat} (hi : i < xs.length) :
    Rw V (a.add (i * Enc.sz α)) (Enc.ty (xs.getD i default) ++ (xs.drop (i + 1)).flatMap Enc.ty) := by
  have h1 := h.drop (i * Enc.sz α)
  rw [flatMap_drop, List.drop_eq_getElem_cons hi, List.flatMap_cons] at h1
  have : xs.getD i default = xs[i] := by simp [List.getD, hi]
  rw [this]; exact h1

theorem t_index {α : Type} [Enc α] [Inhabited α] {xs : List α} {x i : Operand} {t e : TypeId} {k : IntKind} {n : Int} (ho : o.op = .indexAddr t x i := by rfl) (hx : OT F x (Sl xs) := by first | exact ot_tmp rfl | exact ot_const | exact ot_func | exact ot_when rfl (by first | assumption | (simp_all; done)) | exact ot_when_and rfl (by first | assumption | (simp_all; done))) (hi : OT F i (Is (.int k n)) := by first | exact ot_tmp rfl | exact ot_const | exact ot_func | exact ot_when rfl (by first | assumption | (simp_all; done)) | exact ot_when_and rfl (by first | assumption | (simp_all; done))) (u : UndT P t (.slice e) := by infer_instance) (s : SizeT P e (Enc.sz α) := by infer_instance)
    (h0 : 0 ≤ n := by omega) (hn : n < xs.length := by omega) {m : Nat} (hm : n.toNat = m := by first | exact Int.toNat_natCast _ | exact rfl) : OpT P F M o (PtrTo (Enc.ty (xs.getD m default) ++ (xs.drop (m + 1)).flatMap Enc.ty)) :=
  opT_val fun tm V w hf _ _ => by
    subst hm
    obtain ⟨a, len, cap, h1, h2, _, _, h5⟩ := hx.h tm V (hf _ (by simp [ho, Op.operands]))
    obtain ⟨a', rfl, h6⟩ := h5 (by intro e; subst e; simp at hn; omega)
    have h7 := sl_at h6 (i := n.toNat) (by omega)
    refine ⟨.pointer (some (a'.add (n.toNat * Enc.sz α))), ?_, _, rfl, h7⟩
    simp [execOp, ho, h1, ot_is hi hf (by simp [ho, Op.operands]), Instr.indexAt, asIntOf, run_underlying u.h, s.h w, h0, h2, hn]

/-- Arguments, each of its type. -/
def OTs (F : List (Nat × Ty)) : List Operand → List Ty → Prop
  | [], [] => True
  | x :: xs, A :: As => OT F x A ∧ OTs F xs As
  | _, _ => False

theorem OTs.len {F : List (Nat × Ty)} : ∀ {xs : List Operand} {As : List Ty}, OTs F xs As → xs.length = As.length
  | [], [], _ => rfl
  | _ :: xs, _ :: As, h => by simp [OTs.len (xs := xs) (As := As) h.2]

theorem OTs.at {F : List (Nat × Ty)} : ∀ {xs : List Operand} {As : List Ty}, OTs F xs As → ∀ (i : Nat) (A : Ty), As[i]? = some A → ∃ x, xs[i]? = some x ∧ OT F x A
  | [], [], _, i, A, h => by simp at h
  | x :: xs, B :: As, h, 0, A, e => by simp at e; subst e; exact ⟨x, rfl, h.1⟩
  | x :: xs, B :: As, h, i + 1, A, e => by simpa using OTs.at h.2 i A (by simpa using e)

theorem OTs.ta {F : List (Nat × Ty)} {xs : List Operand} {As : List Ty} (h : OTs F xs As) {t : Array Value} {V : View} (hf : ∀ x ∈ xs, TFx F x t V) : TA (xs.toArray.map (ev t)) As V := by
  refine ⟨by simp [h.len], fun i A e => ?_⟩
  obtain ⟨x, h1, h2⟩ := h.at i A e
  have : (xs.toArray.map (ev t)).getD i undef = ev t x := by simp [Array.getD_eq_getD_getElem?, h1]
  rw [this]; exact h2.h t V (hf x (List.mem_of_getElem? h1))

theorem t_call {f : FuncId} {xs : List Operand} {As : List Ty} {ats : Array TypeId} (hs : FnS P f As T) (ho : o.op = .call { callee := .value (.func f), args := xs.toArray, argTypes := ats } := by rfl) (hx : OTs F xs As := by (repeat (first | exact trivial | refine ⟨by first | exact ot_tmp rfl | exact ot_const | exact ot_func | exact ot_when rfl (by first | assumption | (simp_all; done)) | exact ot_when_and rfl (by first | assumption | (simp_all; done)) | exact ot_sub (ot_tmp rfl) sl_slf, ?_⟩)); first | done | fail) : OpT P F M o T := by
  refine ⟨fun tm w V hf hh hm => ?_⟩
  unfold OpRuns
  have : (execOp (ev tm) o).run P w = .ok (.enter f (xs.toArray.map (ev tm))) w := by
    simp [execOp, ho, resolve, ev, Deferred.ofValue, invoke, hs.c]
  rw [this]
  exact Runs.mono (hs.h w V _ (hx.ta fun x hm => hf x (by simp [ho, Op.operands, Call.operands, hm])) hh (Mem.nil _ _)) fun v w' ⟨_, V', h1, h2, _, _⟩ => ⟨V', h1.weaken (by simp [ids]), h2⟩

/-- New blocks, seen. -/
theorem evo_push {w : World} {V : View} (hh : Has w V) (ob : Obj) :
    Evo [] w V { w with heap := w.heap.push ob } (fun k => if k = w.heap.size then some ob else V k) := by
  refine ⟨rfl, rfl, rfl, by simp, fun k hk _ => ?_, fun k hk => ?_, fun k o' e => ?_⟩
  · simp [Array.getElem?_push, Nat.ne_of_lt hk]
  · simp [Nat.ne_of_lt hk]
  · split at e
    · rename_i hk; subst hk; simpa using e
    · rename_i hk; rw [Array.getElem?_push, if_neg hk]; exact hh k o' e

theorem le_push {w : World} {V : View} (hh : Has w V) (ob : Obj) : V.Le (fun k => if k = w.heap.size then some ob else V k) := (evo_push hh ob).le hh

theorem rw_push {w : World} {V : View} (hh : Has w V) {cs : Array Value} {E : TypeId} {Ts : List Ty} (h : ∀ (i : Nat) (T : Ty), Ts[i]? = some T → ∃ c, cs[i]? = some c ∧ T.p c V) :
    Rw (fun k => if k = w.heap.size then some (.cells cs E) else V k) ⟨w.heap.size, 0, none⟩ Ts := by
  refine ⟨rfl, cs, E, (0, 0), by simp, fun i T e => ?_⟩
  obtain ⟨c, h1, h2⟩ := h i T e
  exact ⟨c, by simpa using h1, T.mono _ _ _ (le_push hh _) h2⟩

theorem t_box_one {x : Operand} {t : TypeId} (ho : o.op = .box t x := by rfl) (hx : OT F x T := by first | exact ot_tmp rfl | exact ot_const | exact ot_func | exact ot_when rfl (by first | assumption | (simp_all; done)) | exact ot_when_and rfl (by first | assumption | (simp_all; done))) (hs : Scal T) : OpT P F M o (PtrTo [T]) := by
  refine ⟨fun tm w V hf hh hm => ?_⟩
  have h1 := hx.h tm V (hf _ (by simp [ho, Op.operands]))
  have h2 := cells_one (hs _ _ h1)
  unfold OpRuns
  have : (execOp (ev tm) o).run P w = .ok (.value (.pointer (some ⟨w.heap.size, 0, none⟩))) { w with heap := w.heap.push (.cells #[ev tm x] t) } := by
    simp [execOp, ho, Instr.box, newVar, newRow, newObj, Sem.run, h2]
  rw [this]
  refine ⟨_, evo_push hh _, _, rfl, rw_push hh fun i T' e => ?_⟩
  cases i with
  | zero => simp at e; subst e; exact ⟨_, rfl, h1⟩
  | succ i => simp at e

theorem t_box_agg {x : Operand} {t : TypeId} {Ts : List Ty} (ho : o.op = .box t x := by rfl) (hx : OT F x (Agg Ts) := by first | exact ot_tmp rfl | exact ot_const | exact ot_func | exact ot_when rfl (by first | assumption | (simp_all; done)) | exact ot_when_and rfl (by first | assumption | (simp_all; done))) : OpT P F M o (PtrTo Ts) := by
  refine ⟨fun tm w V hf hh hm => ?_⟩
  obtain ⟨cs, h1, h2, h3⟩ := hx.h tm V (hf _ (by simp [ho, Op.operands]))
  unfold OpRuns
  have : (execOp (ev tm) o).run P w = .ok (.value (.pointer (some ⟨w.heap.size, 0, none⟩))) { w with heap := w.heap.push (.cells cs t) } := by
    simp [execOp, ho, Instr.box, newVar, newRow, newObj, Sem.run, h1, Value.cells]
  rw [this]
  exact ⟨_, evo_push hh _, _, rfl, rw_push hh h3⟩

theorem t_box {α : Type} [Enc α] {x : α} {p : Operand} {t : TypeId} (ho : o.op = .box t p := by rfl) (hx : OT F p (Va x) := by first | exact ot_tmp rfl | exact ot_const | exact ot_func | exact ot_when rfl (by first | assumption | (simp_all; done)) | exact ot_when_and rfl (by first | assumption | (simp_all; done))) : OpT P F M o (PtrTo (Enc.ty x)) := by
  cases ha : Enc.agg α with
  | true => rw [va_agg ha] at hx; exact t_box_agg ho hx
  | false =>
    obtain ⟨T, hT, hV⟩ := va_one (x := x) ha
    rw [hV] at hx; rw [hT]
    exact t_box_one ho hx (Enc.scal x T (by rw [hT]; simp))

end
end Go.Rt

namespace Go.Rt
section
variable {P : Program} {F : List (Nat × Ty)} {M : List Res} {T : Ty} {fn : Func}
theorem res1 {i : Nat} (hr : fn.results = #[.tmp i]) (hl : look F i = some T) : ResT P fn F M T := .mk
  fun t w V hf _ _ => ⟨t.getD i undef, by simp [results, hr], hf i T hl⟩
theorem res1e {i : Nat} {T' : Ty} (hr : fn.results = #[.tmp i]) (hl : look F i = some T') (he : T' = T) : ResT P fn F M T := he ▸ res1 hr hl
theorem res2 {i j : Nat} {A B : Ty} (hr : fn.results = #[.tmp i, .tmp j]) (h1 : look F i = some A) (h2 : look F j = some B) : ResT P fn F M (Tup [A, B]) := .mk
  fun t w V hf _ _ => ⟨.tuple #[t.getD i undef, t.getD j undef], by simp [results, hr], _, rfl, rfl, fun k T e => by
    match k, e with
    | 0, e => cases e; exact ⟨_, rfl, hf i _ h1⟩
    | 1, e => cases e; exact ⟨_, rfl, hf j _ h2⟩⟩
theorem res3 {i j l : Nat} {A B D : Ty} (hr : fn.results = #[.tmp i, .tmp j, .tmp l]) (h1 : look F i = some A) (h2 : look F j = some B) (h3 : look F l = some D) : ResT P fn F M (Tup [A, B, D]) := .mk
  fun t w V hf _ _ => ⟨.tuple #[t.getD i undef, t.getD j undef, t.getD l undef], by simp [results, hr], _, rfl, rfl, fun k T e => by
    match k, e with
    | 0, e => cases e; exact ⟨_, rfl, hf i _ h1⟩
    | 1, e => cases e; exact ⟨_, rfl, hf j _ h2⟩
    | 2, e => cases e; exact ⟨_, rfl, hf l _ h3⟩⟩
theorem resT_sub {T' : Ty} (h : ResT P fn F M T) (hs : ∀ v V, T.p v V → T'.p v V) : ResT P fn F M T' := .mk
  fun t w V hf hh hm => let ⟨v, h1, h2⟩ := h.h t w V hf hh hm; ⟨v, h1, hs _ _ h2⟩
end
end Go.Rt
