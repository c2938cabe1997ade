/- Handing a block over; append; calls of function values; literals. -/
import Derived.Test.YtkoinfegbkigcaaRtH
namespace Go.Rt

/-- The state may be read otherwise. -/
def Ent (C : Ctx) (F : List (Nat × Ty)) (M : List Res) (F' : List (Nat × Ty)) (M' : List Res) : Prop :=
  ∀ t w V, TF F t V → Evo C.X C.w0 C.V0 w V → Mem M w V → IdsOk C M → ∃ V', TF F' t V' ∧ Evo C.X C.w0 C.V0 w V' ∧ Mem M' w V' ∧ IdsOk C M'

section
variable {P : Program} {C : Ctx} {b : Base} {n : Nat} {ds : List Deferred} {k : List Item} {F F' : List (Nat × Ty)} {M M' : List Res} {R : Value → World → Prop} {ops l : List Oper} {i : Nat} {todo : List Item}

theorem g_ent (he : Ent C F M F' M') (h : G P C b n ds todo F' M' R) : G P C b n ds todo F M R :=
  ⟨fun t w V h1 h2 h3 h4 h5 => let ⟨V', g1, g2, g3, g4⟩ := he t w V h2 h3 h4 h5; h.h t w V' h1 g1 g2 g3 g4⟩

theorem gl_ent (he : Ent C F M F' M') (h : GL P C b n ds ops l i k F' M' R) : GL P C b n ds ops l i k F M R :=
  ⟨fun hj => g_ent he (h.h hj)⟩

inductive Del : List Res → Res → List Res → Prop
  | head {r : Res} {M : List Res} : Del (r :: M) r M
  | tail {r x : Res} {M M' : List Res} : Del M r M' → Del (x :: M) r (x :: M')

theorem Del.mem {M M' : List Res} {r : Res} (h : Del M r M') : r ∈ M := by
  induction h with
  | head => simp
  | tail _ ih => simp [ih]

theorem Del.sub {M M' : List Res} {r : Res} (h : Del M r M') : ∀ x ∈ M', x ∈ M := by
  induction h with
  | head => intro x hx; simp [hx]
  | tail _ ih => intro x hx; rcases List.mem_cons.1 hx with h | h <;> simp [h]; exact .inr (ih x h)

theorem Del.nodup {M M' : List Res} {r : Res} (h : Del M r M') (hn : (ids M).Nodup) : (ids M').Nodup ∧ ∀ b, r.id = some b → b ∉ ids M' := by
  induction h with
  | @head r M =>
    cases hid : r.id with
    | none => rw [ids_cons_none hid] at hn; exact ⟨hn, fun b e => by cases e⟩
    | some b =>
      rw [ids_cons_some hid] at hn
      have := List.nodup_cons.1 hn
      exact ⟨this.2, fun b' e => by cases e; exact this.1⟩
  | @tail r x M M' hd ih =>
    cases hid : x.id with
    | none =>
      rw [ids_cons_none hid] at hn ⊢
      obtain ⟨h1, h2⟩ := ih hn
      exact ⟨h1, h2⟩
    | some b =>
      rw [ids_cons_some hid] at hn ⊢
      have hc := List.nodup_cons.1 hn
      obtain ⟨h1, h2⟩ := ih hc.2
      refine ⟨List.nodup_cons.2 ⟨fun hm => hc.1 ?_, h1⟩, fun b' e hm => ?_⟩
      · obtain ⟨y, hy, hyb⟩ := mem_ids.1 hm
        exact mem_ids.2 ⟨y, hd.sub y hy, hyb⟩
      · rcases List.mem_cons.1 hm with h | h
        · subst h; exact hc.1 (mem_ids.2 ⟨r, hd.mem, e⟩)
        · exact h2 b' e h

/-- A block is handed over to what turns no more. -/
theorem thaw_view {w : World} {V : View} {r : Res} {b : Nat} {o : Obj} (hd : Del M r M') (hid : r.id = some b) (hX : b ∉ C.X) (hev : Evo C.X C.w0 C.V0 w V) (hm : Mem M w V) (hI : IdsOk C M) (ho : w.heap[b]? = some o) :
    ∃ V', V'  = (fun k => if k = b then some o else V k) ∧ V.Le V' ∧ Evo C.X C.w0 C.V0 w V' ∧ Mem M' w V' ∧ IdsOk C M' := by
  have hV := hm.hidden (mem_ids.2 ⟨r, hd.mem, hid⟩)
  have hb : C.w0.heap.size ≤ b := (hI b (mem_ids.2 ⟨r, hd.mem, hid⟩)).resolve_left hX
  have hle : V.Le (fun k => if k = b then some o else V k) := fun k o' e => by
    have : k ≠ b := fun h => by subst h; rw [hV] at e; cases e
    simp [this, e]
  obtain ⟨h1, h2⟩ := hd.nodup hm.nodup
  refine ⟨_, rfl, hle, ⟨hev.os, hev.tape, hev.output, hev.size, hev.block, fun k hk => ?_, fun k o' e => ?_⟩, ⟨h1, fun x hx => ?_⟩, fun b' hb' => ?_⟩
  · rw [if_neg (by omega)]; exact hev.view k hk
  · split at e
    · rename_i h; subst h; cases e; exact ho
    · exact hev.has k o' e
  · refine Res.at_evo (hm.all x (hd.sub x hx)) hle (fun _ _ => rfl) fun b' hb' => ?_
    have : b' ≠ b := fun h => by subst h; exact h2 b' hid (mem_ids.2 ⟨x, hx, hb'⟩)
    simp [this]
  · obtain ⟨x, hx, hxb⟩ := mem_ids.1 hb'
    exact hI b' (mem_ids.2 ⟨x, hd.sub x hx, hxb⟩)

theorem TF.cons {F : List (Nat × Ty)} {t : Array Value} {V : View} {T : Ty} {i : Nat} (h : TF F t V) (hv : T.p (t.getD i undef) V) : TF ((i, T) :: F) t V := by
  intro j U e
  simp only [look] at e
  cases hb : Nat.beq j i with
  | true =>
    rw [hb] at e
    have := Nat.eq_of_beq_eq_true hb
    subst this
    simp only [cond_true, Option.some.injEq] at e
    subst e
    exact hv
  | false =>
    rw [hb] at e
    exact h j U e

theorem e_cells {bl s : Nat} {E : TypeId} {Ts : List Ty} (hs : look F s = some (Is (.pointer (some ⟨bl, 0, none⟩)))) (hX : bl ∉ C.X) (hd : Del M (Cells bl E Ts) M' := by (repeat (first | exact Del.head | apply Del.tail)); first | done | fail) :
    Ent C F M ((s, PtrTo Ts) :: F) M' := by
  intro t w V hTF hev hm hI
  obtain ⟨o, h1, h2, cs, h3, h4, h5⟩ := hm.all _ hd.mem
  cases h3
  obtain ⟨V', hV', hle, g1, g2, g3⟩ := thaw_view hd rfl hX hev hm hI h1
  refine ⟨V', ?_, g1, g2, g3⟩
  refine (hTF.le hle).cons ?_
  have : t.getD s undef = .pointer (some ⟨bl, 0, none⟩) := hTF s _ hs
  rw [this]
  refine ⟨_, rfl, rfl, cs, E, (0, 0), by rw [hV']; simp, fun i T e => ?_⟩
  obtain ⟨c, e1, e2⟩ := h5 i T e
  exact ⟨c, by simpa using e1, T.mono _ _ _ hle e2⟩

theorem e_row {α : Type} [Enc α] {v : Value} {s : Nat} {E : TypeId} {xs : List α} (hs : look F s = some (Is v)) (hX : C.X = []) (hd : Del M (RowV v E xs) M' := by (repeat (first | exact Del.head | apply Del.tail)); first | done | fail) :
    Ent C F M ((s, Sl xs) :: F) M' := by
  intro t w V hTF hev hm hI
  have hv : t.getD s undef = v := hTF s _ hs
  have hr := hm.all _ hd.mem
  unfold Res.at at hr
  cases hid : (RowV v E xs).id with
  | none =>
    rw [hid] at hr
    rcases hr with ⟨_, h1, h2⟩ | ⟨g, cap, cs, h1, _⟩
    · refine ⟨V, hTF.cons ?_, hev, ?_, ?_⟩
      · rw [hv, h1]; exact ⟨none, 0, 0, rfl, by simp [h2], Nat.le_refl _, by omega, fun h => absurd h2 h⟩
      · exact ⟨(hd.nodup hm.nodup).1, fun x hx => hm.all x (hd.sub x hx)⟩
      · intro b' hb'
        obtain ⟨x, hx, hxb⟩ := mem_ids.1 hb'
        exact hI b' (mem_ids.2 ⟨x, hd.sub x hx, hxb⟩)
    · subst h1; cases hid
  | some bl =>
    rw [hid] at hr
    obtain ⟨o, h1, h2, h3⟩ := hr
    rcases h3 with ⟨h3, _, _⟩ | ⟨g, cap, cs, h4, h5, h6, h7, h8, h9⟩
    · cases h3
    · cases h5
      subst h4
      have hg : g = bl := by simpa [RowV, Value.ownBlock] using hid
      subst hg
      obtain ⟨V', hV', hle, g1, g2, g3⟩ := thaw_view hd hid (by rw [hX]; simp) hev hm hI h1
      refine ⟨V', (hTF.le hle).cons ?_, g1, g2, g3⟩
      rw [hv]
      refine ⟨_, _, _, rfl, rfl, h6, h7, fun _ => ⟨_, rfl, rfl, cs, E, (0, 0), by rw [hV']; simp, fun i T e => ?_⟩⟩
      obtain ⟨c, e1, e2⟩ := h9 i T e
      exact ⟨c, by simpa using e1, T.mono _ _ _ hle e2⟩

/-- A row that is nil: the variable's first value. -/
theorem e_nilrow {α : Type} [Enc α] {E : TypeId} : Ent C F M F (RowV (.slice none 0 0) E ([] : List α) :: M) := by
  intro t w V hTF hev hm hI
  refine ⟨V, hTF, hev, ⟨?_, fun x hx => ?_⟩, fun b' hb' => ?_⟩
  · rw [ids_cons_none rfl]; exact hm.nodup
  · rcases List.mem_cons.1 hx with rfl | hx
    · exact .inl ⟨rfl, rfl, rfl⟩
    · exact hm.all x hx
  · rw [ids_cons_none rfl] at hb'; exact hI b' hb'

end

/-- An element type: its cells, its bytes. -/
class ElemT (P : Program) (e : TypeId) (sz : outParam Nat) (by_ : outParam Nat) : Prop where
  h : ∃ i z, P.info? e = some i ∧ i.zero = some z ∧ i.size = sz ∧ i.bytes = by_ ∧ z.cells.size = sz

def elemB (P : Program) (e : TypeId) (sz by_ : Nat) : Bool :=
  match P.info? e with
  | some i => match i.zero with
    | some z => Nat.beq i.size sz && Nat.beq i.bytes by_ && Nat.beq z.cells.size sz
    | none => false
  | none => false

theorem elemT_of {P : Program} {e : TypeId} {sz by_ : Nat} (h : elemB P e sz by_ = true) : ElemT P e sz by_ := by
  unfold elemB at h
  split at h
  · rename_i i hi
    split at h
    · rename_i z hz
      simp only [Bool.and_eq_true] at h
      exact ⟨i, z, hi, hz, Nat.eq_of_beq_eq_true h.1.1, Nat.eq_of_beq_eq_true h.1.2, Nat.eq_of_beq_eq_true h.2⟩
    · cases h
  · cases h

/-- The cells of a slice that is read. -/
theorem sl_cells {α : Type} [Enc α] {ys : List α} {w : World} {V : View} {a : Option Addr} {m c : Nat} (h : (Sl ys).p (.slice a m c) V) (hh : Has w V) :
    ∃ news : List Value, news.length = m * Enc.sz α ∧ m = ys.length ∧ (∀ a', a = some a' → ∀ j u, news[j]? = some u → w.cell? (a'.add j) = some u) ∧ (a = none → m = 0) ∧ (∀ u ∈ news, u.oneCell' = true) ∧
      ∀ (i : Nat) (T : Ty), (ys.flatMap Enc.ty)[i]? = some T → ∃ u, news[i]? = some u ∧ T.p u V := by
  obtain ⟨a1, n1, c1, h1, h2, h3, h4, h5⟩ := h
  cases h1
  by_cases hys : ys = []
  · subst hys
    simp only [List.length_nil] at h2
    subst h2
    exact ⟨[], by simp, rfl, by simp, fun _ => rfl, by simp, by simp⟩
  · obtain ⟨a', rfl, hrow⟩ := h5 hys
    obtain ⟨l, g1, g2⟩ := choose_list (p := fun i u => w.cell? (a'.add i) = some u ∧ ∀ T : Ty, (ys.flatMap Enc.ty)[i]? = some T → T.p u V) undef (ys.flatMap Enc.ty).length (fun i hi => by
      obtain ⟨u, e1, e2⟩ := hrow.cell hh (List.getElem?_eq_getElem hi)
      exact ⟨u, e1, fun T e => by rw [List.getElem?_eq_getElem hi] at e; cases e; exact e2⟩)
    have hlen : l.length = m * Enc.sz α := by rw [g1, length_flatMap, h2]
    refine ⟨l, hlen, h2, ?_, by simp, ?_, ?_⟩
    · intro a'' e j u hu
      cases e
      have hj : j < l.length := (List.getElem?_eq_some_iff.1 hu).1
      have := (g2 j (by omega)).1
      simpa [List.getD, hu] using this
    · intro u hu
      obtain ⟨j, hj⟩ := List.getElem?_of_mem hu
      have hjl : j < (ys.flatMap Enc.ty).length := by rw [← g1]; exact (List.getElem?_eq_some_iff.1 hj).1
      have hT := (g2 j hjl).2 _ (List.getElem?_eq_getElem hjl)
      have hmem := List.getElem_mem hjl
      obtain ⟨y, hy, hyT⟩ := List.mem_flatMap.1 hmem
      have : l.getD j undef = u := by simp [List.getD, hj]
      rw [this] at hT
      exact Enc.scal y _ hyT _ _ hT
    · intro i T e
      have hi : i < (ys.flatMap Enc.ty).length := (List.getElem?_eq_some_iff.1 e).1
      refine ⟨l.getD i undef, ?_, (g2 i hi).2 T e⟩
      simp [List.getD, List.getElem?_eq_getElem (show i < l.length by omega)]


section
variable {P : Program} {F : List (Nat × Ty)} {M : List Res} {o : Oper} {T : Ty}

theorem grownCap_bound (w : World) (need old : Nat) (e : TypeId) (h : need ≤ 9223372036854775807) : grownCap w need old e ≤ 9223372036854775807 := by
  have := grownCap_le_maxLen w need old e (by unfold maxLen; omega)
  unfold maxLen at this; omega

/-- append onto a slice under construction. -/
theorem m_append {α : Type} [Enc α] {xs ys : List α} {v : Value} {s x : Operand} {t e : TypeId} {sz by_ : Nat} {M' : Value → List Res} (ho : o.op = .call { callee := .builtin .append, args := #[s, x], argTypes := #[t, t] } := by rfl)
    (hs : OT F s (Is v) := by first | exact ot_tmp rfl | exact ot_const) (hx : OT F x (Sl ys) := by first | exact ot_tmp rfl | exact ot_sub (ot_tmp rfl) sl_slf)
    (u : UndT P t (.slice e) := by infer_instance) (el : ElemT P e sz by_ := by infer_instance) (hsz : sz = Enc.sz α := by rfl) (hu : ∀ v', Upd M (RowV v e xs) (M' v') (RowV v' e (xs ++ ys)) := by intro v'; (repeat (first | exact Upd.head | apply Upd.tail)); first | done | fail)
    (hb : (xs.length + ys.length) * by_ ≤ 140737488355328 := by first | omega | (simp; omega)) (h63 : xs.length + ys.length ≤ 9223372036854775807 := by first | omega | (simp; omega)) : OpM P F M o Value Is M' := by
  subst hsz
  obtain ⟨inf, z, hi, hz, hsize, hby, hzs⟩ := el.h
  subst hby
  refine ⟨fun tm w V hf hh hm => ?_⟩
  have h1 : ev tm s = v := hs.h tm V (hf _ (by simp [ho, Op.operands, Call.operands]))
  have h2 := hx.h tm V (hf _ (by simp [ho, Op.operands, Call.operands]))
  obtain ⟨a, m, c, h3, hm0, _⟩ := id h2
  rw [h3] at h2
  obtain ⟨news, n1, n2, n3, n4, n5, n6⟩ := sl_cells h2 hh
  subst n2
  have hpos := Enc.pos (α := α)
  have hr := hm.all _ (hu v).mem
  -- what the run is, in each case
  have fin : ∀ (w' : World) (g cap : Nat), (Builtin.append_ #[t, t] o.type #[v, .slice a ys.length c]).run P w = .ok (.slice (some ⟨g, 0, none⟩) (xs.length + ys.length) cap) w' →
      (Mem (M' (.slice (some ⟨g, 0, none⟩) (xs.length + ys.length) cap)) w' V ∧ ∀ b ∈ ids (M' (.slice (some ⟨g, 0, none⟩) (xs.length + ys.length) cap)), b ∈ ids M ∨ w.heap.size ≤ b) → Evo (ids M) w V w' V →
      OpRuns P o tm w fun v w' => ∃ x V', Evo (ids M) w V w' V' ∧ (Is x).p v V' ∧ Mem (M' x) w' V' ∧ ∀ b ∈ ids (M' x), b ∈ ids M ∨ w.heap.size ≤ b := by
    intro w' g cap hrun hmem hevo
    unfold OpRuns
    have : (execOp (ev tm) o).run P w = .ok (.value (.slice (some ⟨g, 0, none⟩) (xs.length + ys.length) cap)) w' := by
      simp only [execOp, ho, resolve, invoke, builtin, Sem.run_bind, Sem.run_pure, Result.andThen_ok, List.map_toArray, List.map_cons, List.map_nil, h1, h3, hrun]
    rw [this]
    exact ⟨_, V, hevo, rfl, hmem.1, hmem.2⟩
  -- a new block
  have fresh : ∀ (cs : Array Value) (cap : Nat), xs.length + ys.length ≤ cap → cap ≤ 9223372036854775807 → cs.size = cap * Enc.sz α → (∀ (i : Nat) (T : Ty), ((xs ++ ys).flatMap Enc.ty)[i]? = some T → ∃ c, cs[i]? = some c ∧ T.p c V) →
      Mem (M' (.slice (some ⟨w.heap.size, 0, none⟩) (xs.length + ys.length) cap)) { w.drew with heap := w.heap.push (.cells cs e) } V ∧
        ∀ b ∈ ids (M' (.slice (some ⟨w.heap.size, 0, none⟩) (xs.length + ys.length) cap)), b ∈ ids M ∨ w.heap.size ≤ b := by
    intro cs cap hc1 hc2 hcs htys
    have hw := hu (.slice (some ⟨w.heap.size, 0, none⟩) (xs.length + ys.length) cap)
    have hdel : ∀ {M M' : List Res} {r r' : Res}, Upd M r M' r' → (∀ x ∈ M, x.at w V) → (ids M).Nodup → r'.id = some w.heap.size → r'.p (some (.cells cs e)) V →
        (∀ x ∈ M', x.at { w.drew with heap := w.heap.push (.cells cs e) } V) ∧ (ids M').Nodup ∧ ∀ b ∈ ids M', b ∈ ids M ∨ b = w.heap.size := by
      intro M M' r r' hU
      have hV : V w.heap.size = none := by
        cases hv : V w.heap.size with
        | none => rfl
        | some ob => exact absurd (hh.lt hv) (by omega)
      have keep : ∀ x : Res, x.at w V → x.at { w.drew with heap := w.heap.push (.cells cs e) } V := fun x hx => by
        refine Res.at_evo hx (View.Le.refl _) (fun b hb => ?_) (fun b hb => rfl)
        have := Res.at_lt hx hb
        simp [Array.getElem?_push, Nat.ne_of_lt this]
      induction hU with
      | @head r r' M =>
        intro hall hnd hid hp
        refine ⟨?_, ?_, ?_⟩
        · intro x hx
          rcases List.mem_cons.1 hx with rfl | hx
          · unfold Res.at; rw [hid]; exact ⟨_, by simp, hV, hp⟩
          · exact keep x (hall x (by simp [hx]))
        · rw [ids_cons_some hid]
          have hM : (ids M).Nodup := by
            unfold ids at *
            rw [List.filterMap_cons] at hnd
            split at hnd
            · exact hnd
            · exact (List.nodup_cons.1 hnd).2
          refine List.nodup_cons.2 ⟨fun hmm => ?_, hM⟩
          obtain ⟨x, hx, hxb⟩ := mem_ids.1 hmm
          exact absurd (Res.at_lt (hall x (by simp [hx])) hxb) (by omega)
        · intro b hb
          rw [ids_cons_some hid] at hb
          rcases List.mem_cons.1 hb with h | h
          · exact .inr h
          · obtain ⟨x, hx, hxb⟩ := mem_ids.1 h
            exact .inl (mem_ids.2 ⟨x, by simp [hx], hxb⟩)
      | @tail r r' y M M' hU ih =>
        intro hall hnd hid hp
        have hM : (ids M).Nodup := by
          unfold ids at *
          rw [List.filterMap_cons] at hnd
          split at hnd
          · exact hnd
          · exact (List.nodup_cons.1 hnd).2
        obtain ⟨i1, i2, i3⟩ := ih (fun x hx => hall x (by simp [hx])) hM hid hp
        refine ⟨?_, ?_, ?_⟩
        · intro x hx
          rcases List.mem_cons.1 hx with rfl | hx
          · exact keep x (hall x (by simp))
          · exact i1 x hx
        · cases hyid : y.id with
          | none => rw [ids_cons_none hyid]; exact i2
          | some by' =>
            rw [ids_cons_some hyid]
            refine List.nodup_cons.2 ⟨fun hmm => ?_, i2⟩
            rcases i3 by' hmm with h | h
            · rw [ids_cons_some hyid] at hnd; exact (List.nodup_cons.1 hnd).1 h
            · exact absurd (Res.at_lt (hall y (by simp)) hyid) (by omega)
        · intro b hb
          obtain ⟨x, hx, hxb⟩ := mem_ids.1 hb
          rcases List.mem_cons.1 hx with rfl | hx
          · exact .inl (mem_ids.2 ⟨x, by simp, hxb⟩)
          · rcases i3 b (mem_ids.2 ⟨x, hx, hxb⟩) with h | h
            · obtain ⟨x', hx', hxb'⟩ := mem_ids.1 h
              exact .inl (mem_ids.2 ⟨x', by simp [hx'], hxb'⟩)
            · exact .inr h
    obtain ⟨d1, d2, d3⟩ := hdel hw hm.all hm.nodup rfl (.inr ⟨_, _, cs, by rw [List.length_append], rfl, by rw [List.length_append]; exact hc1, hc2, hcs, htys⟩)
    exact ⟨⟨d2, d1⟩, fun b hb => (d3 b hb).imp id fun h => by omega⟩
  have evoF : ∀ ob, Evo (ids M) w V { w.drew with heap := w.heap.push ob } V := fun ob =>
    ⟨rfl, rfl, rfl, by simp, fun k hk _ => by simp [Array.getElem?_push, Nat.ne_of_lt hk], fun _ _ => rfl, fun k o' e' => by
      have := hh k o' e'
      have hlt := hh.lt e'
      simp [Array.getElem?_push, Nat.ne_of_lt hlt, this]⟩
  unfold Res.at at hr
  cases hid : (RowV v e xs).id with
  | none =>
    rw [hid] at hr
    rcases hr with ⟨_, hv, hxs⟩ | ⟨g, cap, cs, hv, _⟩
    · subst hv hxs
      simp only [List.length_nil, Nat.zero_add, List.nil_append] at *
      by_cases hy0 : ys.length = 0
      · -- nothing is appended to nil
        have hys : ys = [] := List.eq_nil_of_length_eq_zero hy0
        subst hys
        unfold OpRuns
        have hrun : (Builtin.append_ #[t, t] o.type #[.slice none 0 0, .slice a 0 c]).run P w = .ok (.slice none 0 0) w := by
          cases a with
          | none => simp [Builtin.append_, run_underlying u.h, sizeOf, typeInfo, hi, Builtin.lenOf, Builtin.firstCells]
          | some a' => simp [Builtin.append_, run_underlying u.h, sizeOf, typeInfo, hi, Builtin.lenOf, Builtin.firstCells, loadCells, loadCellsFrom]
        have : (execOp (ev tm) o).run P w = .ok (.value (.slice none 0 0)) w := by
          simp only [execOp, ho, resolve, invoke, builtin, Sem.run_bind, Sem.run_pure, Result.andThen_ok, List.map_toArray, List.map_cons, List.map_nil, h1, h3, List.length_nil, hrun]
        rw [this]
        have hself := hu (.slice none 0 0)
        have hall : ∀ x ∈ M' (.slice none 0 0), x.at w V := fun x hx => by
          rcases hself.mem' x hx with rfl | h
          · exact .inl ⟨rfl, rfl, rfl⟩
          · exact hm.all x h
        have hids : ids (M' (.slice none 0 0)) = ids M := by
          have : ∀ {M M' : List Res} {r r' : Res}, Upd M r M' r' → r.id = r'.id → ids M' = ids M := by
            intro M M' r r' hU
            induction hU with
            | head => intro h; simp [ids, List.filterMap_cons, h]
            | tail _ ih => intro h; have := ih h; unfold ids at *; rw [List.filterMap_cons, List.filterMap_cons, this]
          exact this hself rfl
        exact ⟨_, V, Evo.refl hh, rfl, ⟨by rw [hids]; exact hm.nodup, hall⟩, fun b hb => .inl (hids ▸ hb)⟩
      · obtain ⟨a', rfl⟩ : ∃ a', a = some a' := by
          cases a with
          | none => exact absurd (n4 rfl) hy0
          | some a' => exact ⟨a', rfl⟩
        have hrun := run_append_nil (P := P) w t o.type e inf z u.h hi hz a' ys.length c news (by rw [hsize]; exact n1) (n3 a' rfl) (by omega) (by omega) (by omega)
        have hge := grownCap_ge w ys.length 0 e
        refine fin _ w.heap.size (grownCap w ys.length 0 e) hrun ?_ (evoF _)
        exact fresh _ _ hge (grownCap_bound w _ _ e (by omega)) (by
            simp only [Array.size_append, List.size_toArray, size_zeroCells, hzs, n1, ← Nat.add_mul]; congr 1; omega)
          (fun i T hT => by
            obtain ⟨c', e1, e2⟩ := n6 i T hT
            have hil := (List.getElem?_eq_some_iff.1 e1).1
            exact ⟨c', by rw [Array.getElem?_append_left (by simpa using hil)]; simpa using e1, e2⟩)
    · subst hv; cases hid
  | some bl =>
    rw [hid] at hr
    obtain ⟨ob, hg, hV, hr⟩ := hr
    rcases hr with ⟨hr, _, _⟩ | ⟨g, cap, cs, hv, hob, hc1, hc2, hc3, hc4⟩
    · cases hr
    · cases hob
      subst hv
      have hgb : g = bl := by simpa [RowV, Value.ownBlock] using hid
      subst hgb
      have hxl : (xs.flatMap Enc.ty).length = xs.length * Enc.sz α := length_flatMap xs
      by_cases hroom : xs.length + ys.length ≤ cap
      · -- there is room
        have hfit : xs.length * Enc.sz α + news.length ≤ cs.size := by rw [n1, hc3, ← Nat.add_mul]; exact Nat.mul_le_mul_right _ hroom
        have hcs' : (cs.toList.take (xs.length * Enc.sz α) ++ news ++ cs.toList.drop (xs.length * Enc.sz α + news.length)).toArray.size = cap * Enc.sz α := by
          simp only [List.size_toArray, List.length_append, List.length_take, List.length_drop, Array.length_toList]; omega
        have hty : ∀ (i : Nat) (T : Ty), ((xs ++ ys).flatMap Enc.ty)[i]? = some T → ∃ c, (cs.toList.take (xs.length * Enc.sz α) ++ news ++ cs.toList.drop (xs.length * Enc.sz α + news.length)).toArray[i]? = some c ∧ T.p c V := by
          intro i T hT
          rw [List.flatMap_append] at hT
          have l1 : (cs.toList.take (xs.length * Enc.sz α)).length = xs.length * Enc.sz α := by simp; omega
          rw [List.getElem?_toArray, List.append_assoc]
          by_cases hi' : i < xs.length * Enc.sz α
          · rw [List.getElem?_append_left (by omega)] at hT
            obtain ⟨c', e1, e2⟩ := hc4 i T hT
            exact ⟨c', by rw [List.getElem?_append_left (by omega), List.getElem?_take, if_pos hi']; simpa using e1, e2⟩
          · rw [List.getElem?_append_right (by omega), hxl] at hT
            obtain ⟨c', e1, e2⟩ := n6 _ T hT
            have hil := (List.getElem?_eq_some_iff.1 e1).1
            exact ⟨c', by rw [List.getElem?_append_right (by omega), l1, List.getElem?_append_left (by omega)]; exact e1, e2⟩
        have hrun : ∃ w', (Builtin.append_ #[t, t] o.type #[.slice (some ⟨g, 0, none⟩) xs.length cap, .slice a ys.length c]).run P w = .ok (.slice (some ⟨g, 0, none⟩) (xs.length + ys.length) cap) w' ∧
            w' = w.setRow g (cs.toList.take (xs.length * Enc.sz α) ++ news ++ cs.toList.drop (xs.length * Enc.sz α + news.length)).toArray := by
          cases a with
          | some a' =>
            have := run_append_room (P := P) w t o.type e inf u.h hi g xs.length cap cs hg a' ys.length c news (by rw [hsize]; exact n1) (n3 a' rfl) n5 hroom (by rw [hsize]; exact hfit)
            rw [hsize] at this
            exact ⟨_, this, rfl⟩
          | none =>
            have hy0 := n4 rfl
            have hn0 : news = [] := List.eq_nil_of_length_eq_zero (by rw [n1, hy0]; simp)
            subst hn0
            refine ⟨w, ?_, ?_⟩
            · rw [hy0]
              simp [Builtin.append_, run_underlying u.h, sizeOf, typeInfo, hi, Builtin.lenOf, Builtin.firstCells, show xs.length ≤ cap by omega, storeCells]
            · have e1 : (cs.toList.take (xs.length * Enc.sz α) ++ [] ++ cs.toList.drop (xs.length * Enc.sz α + ([] : List Value).length)).toArray = cs := by simp
              rw [e1]
              exact (setRow_self w g cs e (0, 0) hg).symm
        obtain ⟨w', hrun, rfl⟩ := hrun
        refine fin _ g cap hrun ?_ ?_
        · have := hm.upd (hu (.slice (some ⟨g, 0, none⟩) (xs.length + ys.length) cap)) (b := g) (w' := w.setRow g (cs.toList.take (xs.length * Enc.sz α) ++ news ++ cs.toList.drop (xs.length * Enc.sz α + news.length)).toArray)
            rfl rfl (fun k hk => setRow_other w g k _ hk) (setRow_heap w g cs _ e (0, 0) hg) (.inr ⟨g, cap, _, by rw [List.length_append], rfl, by rw [List.length_append]; exact hroom, hc2, hcs', hty⟩)
          exact ⟨this.1, fun b hb => .inl (this.2 ▸ hb)⟩
        · exact evo_upd hh (mem_ids.2 ⟨_, (hu .nilFunc).mem, rfl⟩) hV rfl rfl rfl (by simp) (fun k hk => setRow_other w g k _ hk)
      · -- it must grow
        obtain ⟨a', rfl⟩ : ∃ a', a = some a' := by
          cases a with
          | none => exact absurd (n4 rfl) (by omega)
          | some a' => exact ⟨a', rfl⟩
        have holdl : (cs.toList.take (xs.length * Enc.sz α)).length = xs.length * inf.size := by
          have : xs.length * Enc.sz α ≤ cs.size := by rw [hc3]; exact Nat.mul_le_mul_right _ hc1
          rw [hsize]; simp; omega
        have hold : ∀ j v, (cs.toList.take (xs.length * Enc.sz α))[j]? = some v → w.cell? ((⟨g, 0, none⟩ : Addr).add j) = some v := by
          intro j v hj
          rw [List.getElem?_take] at hj
          split at hj
          · rw [add_mk]
            simp only [World.cell?, hg, Nat.zero_add]
            simpa using hj
          · cases hj
        have hrun := run_append_grow (P := P) w t o.type e inf z u.h hi hz ⟨g, 0, none⟩ xs.length cap _ holdl hold a' ys.length c news (by rw [hsize]; exact n1) (n3 a' rfl) (by omega) (by omega) (growslice_fits (by omega) hb)
        have hge := grownCap_ge w (xs.length + ys.length) cap e
        refine fin _ w.heap.size (grownCap w (xs.length + ys.length) cap e) hrun ?_ (evoF _)
        exact fresh _ _ hge (grownCap_bound w _ _ e h63) (by
            rw [hsize] at holdl
            simp only [Array.size_append, List.size_toArray, size_zeroCells, hzs, n1, holdl, ← Nat.add_mul]; congr 1; omega)
          (fun i T hT => by
            rw [List.flatMap_append] at hT
            rw [hsize] at holdl
            by_cases hi' : i < xs.length * Enc.sz α
            · rw [List.getElem?_append_left (by omega)] at hT
              obtain ⟨c', e1, e2⟩ := hc4 i T hT
              refine ⟨c', ?_, e2⟩
              rw [Array.getElem?_append_left (by simp only [Array.size_append, List.size_toArray, holdl]; omega), Array.getElem?_append_left (by simp only [List.size_toArray, holdl]; exact hi')]
              rw [List.getElem?_toArray, List.getElem?_take, if_pos hi']
              simpa using e1
            · rw [List.getElem?_append_right (by omega), hxl] at hT
              obtain ⟨c', e1, e2⟩ := n6 _ T hT
              have hil := (List.getElem?_eq_some_iff.1 e1).1
              refine ⟨c', ?_, e2⟩
              rw [Array.getElem?_append_left (by simp only [Array.size_append, List.size_toArray, holdl]; omega), Array.getElem?_append_right (by simp only [List.size_toArray, holdl]; omega)]
              simp only [List.size_toArray, holdl, List.getElem?_toArray]
              exact e1)

end
end Go.Rt
