/- The typed layer: a slot's type is a predicate on a value over a part of memory that turns no more; what may turn is held as resources. -/
import Derived.Test.YtkoinfegbkigcaaRtA
namespace Go.Rt

abbrev View := Nat → Option Obj
def View.Le (V V' : View) : Prop := ∀ k o, V k = some o → V' k = some o
theorem View.Le.refl (V : View) : V.Le V := fun _ _ h => h
theorem View.Le.trans {V V' V'' : View} (h : V.Le V') (h' : V'.Le V'') : V.Le V'' := fun k o e => h' k o (h k o e)

def Has (w : World) (V : View) : Prop := ∀ k o, V k = some o → w.heap[k]? = some o

theorem Has.lt {w : World} {V : View} (h : Has w V) {k : Nat} {o : Obj} (e : V k = some o) : k < w.heap.size :=
  (Array.getElem?_eq_some_iff.1 (h k o e)).1

structure Ty where
  p : Value → View → Prop
  mono : ∀ v V V', View.Le V V' → p v V → p v V'

structure Res where
  id : Option Nat
  p : Option Obj → View → Prop
  mono : ∀ o V V', View.Le V V' → p o V → p o V'

def Res.at (r : Res) (w : World) (V : View) : Prop :=
  match r.id with
  | none => r.p none V
  | some b => ∃ o, w.heap[b]? = some o ∧ V b = none ∧ r.p (some o) V

def ids (M : List Res) : List Nat := M.filterMap Res.id

theorem mem_ids {M : List Res} {b : Nat} : b ∈ ids M ↔ ∃ r ∈ M, r.id = some b := by simp [ids]

structure Mem (M : List Res) (w : World) (V : View) : Prop where
  nodup : (ids M).Nodup
  all : ∀ r ∈ M, r.at w V

/-- How memory goes on: only the blocks X of the old ones may turn; what was seen is seen as it was. -/
structure Evo (X : List Nat) (w : World) (V : View) (w' : World) (V' : View) : Prop where
  os : w'.os = w.os
  tape : w'.tape = w.tape
  output : w'.output = w.output
  size : w.heap.size ≤ w'.heap.size
  block : ∀ k, k < w.heap.size → k ∉ X → w'.heap[k]? = w.heap[k]?
  view : ∀ k, k < w.heap.size → V' k = V k
  has : Has w' V'

theorem Evo.refl {X : List Nat} {w : World} {V : View} (h : Has w V) : Evo X w V w V := ⟨rfl, rfl, rfl, Nat.le_refl _, fun _ _ _ => rfl, fun _ _ => rfl, h⟩

theorem Evo.le {X : List Nat} {w w' : World} {V V' : View} (h : Evo X w V w' V') (hh : Has w V) : V.Le V' := fun k o e => by
  rw [h.view k (hh.lt e)]; exact e

theorem Evo.trans {X Y : List Nat} {w w' w'' : World} {V V' V'' : View} (h : Evo X w V w' V') (h' : Evo Y w' V' w'' V'')
    (hy : ∀ b ∈ Y, b ∈ X ∨ w.heap.size ≤ b) : Evo X w V w'' V'' :=
  ⟨h'.os.trans h.os, h'.tape.trans h.tape, h'.output.trans h.output, Nat.le_trans h.size h'.size,
    fun k hk hx => (h'.block k (Nat.lt_of_lt_of_le hk h.size) (fun hm => (hy k hm).elim hx fun h1 => by omega)).trans (h.block k hk hx),
    fun k hk => (h'.view k (Nat.lt_of_lt_of_le hk h.size)).trans (h.view k hk), h'.has⟩

theorem Evo.weaken {X Y : List Nat} {w w' : World} {V V' : View} (h : Evo X w V w' V') (hy : ∀ b ∈ X, b ∈ Y) : Evo Y w V w' V' :=
  ⟨h.os, h.tape, h.output, h.size, fun k hk hx => h.block k hk fun hm => hx (hy k hm), h.view, h.has⟩

theorem Evo.draw {X : List Nat} {w : World} {V : View} (h : Has w V) : Evo X w V { w with drawn := w.drawn + 1 } V :=
  ⟨rfl, rfl, rfl, Nat.le_refl _, fun _ _ _ => rfl, fun _ _ => rfl, h⟩

theorem Res.at_evo {r : Res} {w w' : World} {V V' : View} (h : r.at w V) (hl : V.Le V') (hb : ∀ b, r.id = some b → w'.heap[b]? = w.heap[b]?)
    (hv : ∀ b, r.id = some b → V' b = V b) : r.at w' V' := by
  unfold Res.at at *
  cases hid : r.id with
  | none => rw [hid] at h; exact r.mono _ _ _ hl h
  | some b =>
    rw [hid] at h
    obtain ⟨o, h1, h2, h3⟩ := h
    exact ⟨o, (hb b hid).trans h1, (hv b hid).trans h2, r.mono _ _ _ hl h3⟩

theorem Res.at_lt {r : Res} {w : World} {V : View} (h : r.at w V) {b : Nat} (hid : r.id = some b) : b < w.heap.size := by
  unfold Res.at at h
  rw [hid] at h
  obtain ⟨o, h1, _, _⟩ := h
  exact (Array.getElem?_eq_some_iff.1 h1).1

theorem Mem.lt {M : List Res} {w : World} {V : View} (h : Mem M w V) {b : Nat} (hb : b ∈ ids M) : b < w.heap.size := by
  obtain ⟨r, hr, hid⟩ := mem_ids.1 hb
  exact Res.at_lt (h.all r hr) hid

theorem Mem.hidden {M : List Res} {w : World} {V : View} (h : Mem M w V) {b : Nat} (hb : b ∈ ids M) : V b = none := by
  obtain ⟨r, hr, hid⟩ := mem_ids.1 hb
  have := h.all r hr
  unfold Res.at at this
  rw [hid] at this
  obtain ⟨o, _, h2, _⟩ := this
  exact h2

/-- The resources stay over a step that turns none of their blocks. -/
theorem Mem.evo {M : List Res} {X : List Nat} {w w' : World} {V V' : View} (h : Mem M w V) (hh : Has w V) (e : Evo X w V w' V') (hx : ∀ b ∈ ids M, b ∉ X) : Mem M w' V' :=
  ⟨h.nodup, fun r hr => Res.at_evo (h.all r hr) (e.le hh) (fun b hid => e.block b (Res.at_lt (h.all r hr) hid) (hx b (mem_ids.2 ⟨r, hr, hid⟩)))
    (fun b hid => e.view b (Res.at_lt (h.all r hr) hid))⟩

theorem Mem.nil (w : World) (V : View) : Mem [] w V := ⟨by simp [ids], by simp⟩

def look : List (Nat × Ty) → Nat → Option Ty
  | [], _ => none
  | (j, T) :: F, i => bif Nat.beq i j then some T else look F i

/-- The slots' types. -/
def TF (F : List (Nat × Ty)) (t : Array Value) (V : View) : Prop := ∀ i T, look F i = some T → T.p (t.getD i undef) V

theorem TF.le {F : List (Nat × Ty)} {t : Array Value} {V V' : View} (h : TF F t V) (hl : V.Le V') : TF F t V' := fun i T e => T.mono _ _ _ hl (h i T e)

theorem TF.put {F : List (Nat × Ty)} {t : Array Value} {V : View} {T : Ty} {v : Value} {d : Nat} (h : TF F t V) (hd : d < t.size) (hv : T.p v V) : TF ((d, T) :: F) (t.setIfInBounds d v) V := by
  intro i U e
  simp only [look] at e
  cases hb : Nat.beq i d with
  | true =>
    rw [hb] at e
    have := Nat.eq_of_beq_eq_true hb
    subst this
    simp only [cond_true, Option.some.injEq] at e
    subst e
    simpa [Array.getD_eq_getD_getElem?, hd] using hv
  | false =>
    rw [hb] at e
    have hne : i ≠ d := fun e => by subst e; simp at hb
    have := h i U e
    simpa [Array.getD_eq_getD_getElem?, Ne.symm hne] using this

theorem TF.drop {F : List (Nat × Ty)} {t : Array Value} {V : View} {v : Value} {d : Nat} (h : TF F t V) (hn : look F d = none) : TF F (t.setIfInBounds d v) V := by
  intro i U e
  have hne : i ≠ d := fun e' => by subst e'; rw [hn] at e; cases e
  have := h i U e
  simpa [Array.getD_eq_getD_getElem?, Ne.symm hne] using this

def anyTy : Ty := ⟨fun _ _ => True, fun _ _ _ _ _ => trivial⟩
/-- Just this value. -/
def Is (x : Value) : Ty := ⟨fun v _ => v = x, fun _ _ _ _ h => h⟩

/-- Known only where p holds. -/
def When (p : Prop) (T : Ty) : Ty := ⟨fun v V => (p → T.p v V) ∧ (¬ p → v = undef), fun _ _ _ hl h => ⟨fun hp => T.mono _ _ _ hl (h.1 hp), h.2⟩⟩

/-- The slots behind an operation: its own is of type T. -/
def wr (o : Oper) (T : Ty) (F : List (Nat × Ty)) : List (Nat × Ty) :=
  match o.dst with
  | some d => (d, T) :: F
  | none => F

theorem TF.wr {F : List (Nat × Ty)} {t : Array Value} {V : View} {o : Oper} {T : Ty} {v : Value} (h : TF F t V) (hd : ∀ d, o.dst = some d → d < t.size) (hv : T.p v V) :
    TF (Rt.wr o T F) (Rt.put o v t) V := by
  unfold Rt.wr Rt.put
  cases hdst : o.dst with
  | none => exact h
  | some d => exact h.put (hd d hdst) hv

theorem size_put (o : Oper) (v : Value) (t : Array Value) : (put o v t).size = t.size := by
  unfold put; split <;> simp

/-- An operand's slot is of its type. -/
def TFx (F : List (Nat × Ty)) (x : Operand) (t : Array Value) (V : View) : Prop :=
  match x with
  | .tmp i => ∀ T, look F i = some T → T.p (t.getD i undef) V
  | _ => True
def TFo (F : List (Nat × Ty)) (o : Oper) (t : Array Value) (V : View) : Prop := ∀ x ∈ o.op.operands, TFx F x t V
theorem TF.x {F : List (Nat × Ty)} {t : Array Value} {V : View} (h : TF F t V) (x : Operand) : TFx F x t V := by
  cases x <;> first | exact fun T e => h _ T e | trivial
theorem TF.o {F : List (Nat × Ty)} {t : Array Value} {V : View} (h : TF F t V) (o : Oper) : TFo F o t V := fun x _ => h.x x

/-- One operation: its value is of type T x, the resources are M' x, for some x. -/
structure OpM (P : Program) (F : List (Nat × Ty)) (M : List Res) (o : Oper) (β : Type) (T : β → Ty) (M' : β → List Res) : Prop where
  h : ∀ t w V, TFo F o t V → Has w V → Mem M w V →
    OpRuns P o t w fun v w' => ∃ x V', Evo (ids M) w V w' V' ∧ (T x).p v V' ∧ Mem (M' x) w' V' ∧ ∀ b ∈ ids (M' x), b ∈ ids M ∨ w.heap.size ≤ b

/-- An operation that turns no resource. -/
structure OpT (P : Program) (F : List (Nat × Ty)) (M : List Res) (o : Oper) (T : Ty) : Prop where
  h : ∀ t w V, TFo F o t V → Has w V → Mem M w V → OpRuns P o t w fun v w' => ∃ V', Evo [] w V w' V' ∧ T.p v V'

theorem OpT.opM {P : Program} {F : List (Nat × Ty)} {M : List Res} {o : Oper} {T : Ty} (h : OpT P F M o T) : OpM P F M o Unit (fun _ => T) (fun _ => M) :=
  ⟨fun t w V hf hh hm => (h.h t w V hf hh hm).mono fun _ _ ⟨V', e, ht⟩ => ⟨(), V', e.weaken (by simp), ht, hm.evo hh e (by simp), fun b hb => .inl hb⟩⟩

structure Ctx where
  w0 : World
  V0 : View
  X : List Nat

def IdsOk (C : Ctx) (M : List Res) : Prop := ∀ b ∈ ids M, b ∈ C.X ∨ C.w0.heap.size ≤ b

/-- From here on the frame runs to its return, and R holds there. -/
structure G (P : Program) (C : Ctx) (b : Base) (n : Nat) (ds : List Deferred) (todo : List Item) (F : List (Nat × Ty)) (M : List Res) (R : Value → World → Prop) : Prop where
  h : ∀ t w V, t.size = n → TF F t V → Evo C.X C.w0 C.V0 w V → Mem M w V → IdsOk C M → Runs P b (b.at t ds todo) w R

section
variable {P : Program} {C : Ctx} {b : Base} {n : Nat} {ds : List Deferred} {k : List Item} {F : List (Nat × Ty)} {M : List Res} {R : Value → World → Prop}

theorem g_skip (h : G P C b n ds k F M R) : G P C b n ds (.code .skip :: k) F M R := ⟨fun t w V h1 h2 h3 h4 h5 => .head (fun _ => m_skip) (h.h t w V h1 h2 h3 h4 h5)⟩
theorem g_label {l : Nat} (h : G P C b n ds k F M R) : G P C b n ds (.code (.label l) :: k) F M R := ⟨fun t w V h1 h2 h3 h4 h5 => .head (fun _ => m_label) (h.h t w V h1 h2 h3 h4 h5)⟩
theorem g_inBlock {i : Nat} (h : G P C b n ds k F M R) : G P C b n ds (.inBlock i :: k) F M R := ⟨fun t w V h1 h2 h3 h4 h5 => .head (fun _ => m_inBlock) (h.h t w V h1 h2 h3 h4 h5)⟩
theorem g_inScope {c : Code} (h : G P C b n ds k F M R) : G P C b n ds (.inScope c :: k) F M R := ⟨fun t w V h1 h2 h3 h4 h5 => .head (fun _ => m_inScope) (h.h t w V h1 h2 h3 h4 h5)⟩
theorem g_seq {x y : Code} (h : G P C b n ds (.code x :: .code y :: k) F M R) : G P C b n ds (.code (.seq x y) :: k) F M R := ⟨fun t w V h1 h2 h3 h4 h5 => .head (fun _ => m_seq) (h.h t w V h1 h2 h3 h4 h5)⟩
theorem g_block {i : Nat} {c : Code} (h : G P C b n ds (.code c :: .inBlock i :: k) F M R) : G P C b n ds (.code (.block i c) :: k) F M R := ⟨fun t w V h1 h2 h3 h4 h5 => .head (fun _ => m_block) (h.h t w V h1 h2 h3 h4 h5)⟩
theorem g_scope {c : Code} (h : G P C b n ds (.code c :: .inScope c :: k) F M R) : G P C b n ds (.code (.scope c) :: k) F M R := ⟨fun t w V h1 h2 h3 h4 h5 => .head (fun _ => m_scope) (h.h t w V h1 h2 h3 h4 h5)⟩
theorem g_exit {i : Nat} {k' : List Item} (he : exitTo i k = some k') (h : G P C b n ds k' F M R) : G P C b n ds (.code (.exit i) :: k) F M R := ⟨fun t w V h1 h2 h3 h4 h5 => .head (fun _ => m_exit he) (h.h t w V h1 h2 h3 h4 h5)⟩
theorem g_goto {l : Nat} {k' : List Item} (he : gotoIn l k = some k') (h : G P C b n ds k' F M R) : G P C b n ds (.code (.goto l) :: k) F M R := ⟨fun t w V h1 h2 h3 h4 h5 => .head (fun _ => m_goto he) (h.h t w V h1 h2 h3 h4 h5)⟩
theorem g_region {i : Nat} {ops : Array Oper} (h : G P C b n ds (.inRegion ops (List.range ops.size) :: k) F M R) : G P C b n ds (.code (.region i ops false) :: k) F M R := ⟨fun t w V h1 h2 h3 h4 h5 => .head (fun _ => m_region) (h.h t w V h1 h2 h3 h4 h5)⟩
theorem g_region_end {ops : Array Oper} (h : G P C b n ds k F M R) : G P C b n ds (.inRegion ops [] :: k) F M R := ⟨fun t w V h1 h2 h3 h4 h5 => .head (fun _ => m_region_end) (h.h t w V h1 h2 h3 h4 h5)⟩

/-- The value of an operand. -/
structure OT (F : List (Nat × Ty)) (o : Operand) (T : Ty) : Prop where
  h : ∀ t V, TFx F o t V → T.p (ev t o) V

theorem ot_tmp {F : List (Nat × Ty)} {i : Nat} {T : Ty} (h : look F i = some T) : OT F (.tmp i) T := ⟨fun _ _ hf => hf T h⟩
theorem ot_const {F : List (Nat × Ty)} {v : Value} : OT F (.const v) (Is v) := ⟨fun _ _ _ => rfl⟩
theorem ot_func {F : List (Nat × Ty)} {f : FuncId} : OT F (.func f) (Is (.func (.func f) #[] #[])) := ⟨fun _ _ _ => rfl⟩
theorem ot_when {F : List (Nat × Ty)} {i : Nat} {p : Prop} {T : Ty} (h : look F i = some (When p T)) (hp : p) : OT F (.tmp i) T := ⟨fun _ _ hf => (hf _ h).1 hp⟩
theorem ot_when_and {F : List (Nat × Ty)} {i : Nat} {p r : Prop} {T : Ty} (h : look F i = some (When (p ∧ r) T)) (hp : p) : OT F (.tmp i) (When r T) :=
  ⟨fun _ _ hf => ⟨fun hr => (hf _ h).1 ⟨hp, hr⟩, fun hr => (hf _ h).2 fun hh => hr hh.2⟩⟩
theorem ot_sub {F : List (Nat × Ty)} {o : Operand} {T T' : Ty} (h : OT F o T) (hs : ∀ v V, T.p v V → T'.p v V) : OT F o T' := ⟨fun t V hf => hs _ _ (h.h t V hf)⟩

theorem ot_eq {F : List (Nat × Ty)} {i : Nat} {T T' : Ty} (h : look F i = some T) (e : T = T') : OT F (.tmp i) T' := ⟨fun _ _ hf => e ▸ hf T h⟩
theorem tf_nil {F : List (Nat × Ty)} : ∀ t V, TF F t V → TF [] t V := fun _ _ _ _ _ e => by cases e
theorem tf_cons {F F' : List (Nat × Ty)} {i : Nat} {T : Ty} (hl : OT F (.tmp i) T) (h : ∀ t V, TF F t V → TF F' t V) : ∀ t V, TF F t V → TF ((i, T) :: F') t V := fun t V hf j U e => by
  simp only [look] at e
  cases hb : Nat.beq j i with
  | true =>
    rw [hb] at e
    have := Nat.eq_of_beq_eq_true hb
    subst this
    simp only [cond_true, Option.some.injEq] at e
    subst e
    exact hl.h t V (hf.x _)
  | false =>
    rw [hb] at e
    exact h t V hf j U e

theorem g_cond {c : Operand} {x y : Code} {q : Bool} (hc : OT F c (Is (.bool q))) (ht : q = true → G P C b n ds (.code x :: k) F M R) (hf : q = false → G P C b n ds (.code y :: k) F M R) :
    G P C b n ds (.code (.cond c x y) :: k) F M R := ⟨fun t w V h1 h2 h3 h4 h5 => by
  refine .head (fun _ => m_cond (q := q) (hc.h t V (h2.x _))) ?_
  cases q
  · exact (hf rfl).h t w V h1 h2 h3 h4 h5
  · exact (ht rfl).h t w V h1 h2 h3 h4 h5⟩

theorem g_sub {F' : List (Nat × Ty)} {M' : List Res} {todo : List Item} (hF : ∀ t V, TF F t V → TF F' t V)
    (hM : ids M' = ids M ∧ ∀ w V, Mem M w V → Mem M' w V) (h : G P C b n ds todo F' M' R) : G P C b n ds todo F M R :=
  ⟨fun t w V h1 h2 h3 h4 h5 => h.h t w V h1 (hF t V h2) h3 (hM.2 w V h4) (by intro x hx; rw [hM.1] at hx; exact h5 x hx)⟩

theorem g_subF {F' : List (Nat × Ty)} {todo : List Item} (hF : ∀ t V, TF F t V → TF F' t V) (h : G P C b n ds todo F' M R) : G P C b n ds todo F M R :=
  ⟨fun t w V h1 h2 => h.h t w V h1 (hF t V h2)⟩

/-- A loop: at each round's head the state is that of some i. -/
theorem g_loop {c : Code} {ι : Type} (I : ι → Prop) (FF : ι → List (Nat × Ty)) (MM : ι → List Res) (μ : ι → Nat)
    (h0 : (∀ i, I i → G P C b n ds (.inLoop c :: k) (FF i) (MM i) R) → G P C b n ds (.inLoop c :: k) F M R)
    (round : ∀ i, I i → (∀ j, I j → μ j < μ i → G P C b n ds (.inLoop c :: k) (FF j) (MM j) R) → G P C b n ds (.code c :: .inLoop c :: k) (FF i) (MM i) R) :
    G P C b n ds (.code (.loop c) :: k) F M R := by
  have key : ∀ m i, μ i = m → I i → G P C b n ds (.inLoop c :: k) (FF i) (MM i) R := by
    intro m
    induction m using Nat.strongRecOn with
    | _ m ih =>
      intro i hm hi
      exact ⟨fun t w V h1 h2 h3 h4 h5 => .head (fun _ => m_inLoop) ((round i hi (fun j hj hlt => ih (μ j) (hm ▸ hlt) j rfl hj)).h t w V h1 h2 h3 h4 h5)⟩
  refine ⟨fun t w V h1 h2 h3 h4 h5 => ?_⟩
  have h := (h0 (fun i hi => key (μ i) i rfl hi)).h t w V h1 h2 h3 h4 h5
  intro cs
  obtain ⟨fr1, w1, v, w', r, s, e⟩ := h cs
  refine ⟨fr1, w1, v, w', r, ?_, e⟩
  obtain ⟨m, hm⟩ := s
  cases m with
  | zero =>
    simp only [runN, Stepped.next.injEq] at hm
    exfalso
    have hf := congrArg (fun m : Machine => (m.gs[0]?).map (·.frame.mode)) hm
    obtain ⟨he1, he2⟩ := e
    cases hb : b.round with
    | none =>
      rw [hb] at he2
      have hmode := he2.1.1
      simp [lone, Base.at, hmode] at hf
    | some l =>
      rw [hb] at he2
      have hs := he2 default []
      have hfr : fr1 = b.at t ds (.inLoop c :: k) := by
        have := congrArg (fun m : Machine => (m.gs[0]?).map (·.frame)) hm
        simpa [lone] using this.symm
      rw [hfr] at hs
      rw [m_inLoop] at hs
      have hl := congrArg (fun s : Stepped => match s with | .next m => (m.gs[0]?).map (fun g : Goroutine => g.callers.length) | _ => none) hs
      simp [lone] at hl
  | succ m =>
    simp only [runN, m_inLoop] at hm
    exact Steps.head m_loop ⟨m, hm⟩

/-- One operation of a region, in its order. -/
theorem g_opM {ops : Array Oper} {i : Nat} {rest : List Nat} {o : Oper} {β : Type} {T : β → Ty} {M' : β → List Res} (ho : ops[i]? = some o) (hg : o.guard = none) (hd : isDefer o.op = false)
    (hn : ∀ d, o.dst = some d → d < n) (hop : OpM P F M o β T M') (h : ∀ x, G P C b n ds (.inRegion ops rest :: k) (wr o (T x) F) (M' x) R) :
    G P C b n ds (.inRegion ops (i :: rest) :: k) F M R := by
  refine ⟨fun t w V h1 h2 h3 h4 h5 => ?_⟩
  refine Runs.op ho (by simp [Region.wanted, hg]) hd ((hop.h t w V (h2.o _) h3.has h4).mono ?_)
  rintro v w' ⟨x, V', e, ht, hm, hi⟩
  have hev : Evo C.X C.w0 C.V0 w' V' := h3.trans e h5
  refine (h x).h _ w' V' (by rw [size_put]; exact h1) (TF.wr (h2.le (e.le h3.has)) (fun d hd' => by rw [h1]; exact hn d hd') ht) hev hm ?_
  intro b' hb'
  rcases hi b' hb' with h6 | h6
  · exact h5 b' h6
  · exact .inr (Nat.le_trans h3.size h6)

theorem g_op {ops : Array Oper} {i : Nat} {rest : List Nat} {o : Oper} {T : Ty} (ho : ops[i]? = some o) (hg : o.guard = none) (hd : isDefer o.op = false)
    (hn : ∀ d, o.dst = some d → d < n) (hop : OpT P F M o T) (h : G P C b n ds (.inRegion ops rest :: k) (wr o T F) M R) :
    G P C b n ds (.inRegion ops (i :: rest) :: k) F M R := g_opM ho hg hd hn hop.opM fun _ => h

end

/-- A region in the order of its text: l is what is left of it, from place i on. -/
structure GL (P : Program) (C : Ctx) (b : Base) (n : Nat) (ds : List Deferred) (ops l : List Oper) (i : Nat) (k : List Item) (F : List (Nat × Ty)) (M : List Res) (R : Value → World → Prop) : Prop where
  h : (∀ j, l[j]? = ops[i + j]?) → G P C b n ds (.inRegion ops.toArray (List.range' i l.length) :: k) F M R

def okDst (d n : Nat) : Bool := Nat.blt d n

section
variable {P : Program} {C : Ctx} {b : Base} {n : Nat} {ds : List Deferred} {k : List Item} {F : List (Nat × Ty)} {M : List Res} {R : Value → World → Prop} {ops l : List Oper} {i : Nat}

theorem gl_region {id : Nat} (h : GL P C b n ds l l 0 k F M R) : G P C b n ds (.code (.region id l.toArray false) :: k) F M R := by
  refine g_region ?_
  have := h.h (fun j => by simp)
  rw [← List.range_eq_range'] at this
  simpa using this

theorem gl_nil (h : G P C b n ds k F M R) : GL P C b n ds ops [] i k F M R := ⟨fun _ => g_region_end (by simpa using h)⟩

theorem gl_opM {d : Nat} {op : Op} {ty : TypeId} {pos : String} {af : Array Edge} {β : Type} {T : β → Ty} {M' : β → List Res}
    (hop : OpM P F M ⟨some d, op, ty, pos, af, none⟩ β T M') (h : ∀ x, GL P C b n ds ops l (i + 1) k ((d, T x) :: F) (M' x) R) (hd : isDefer op = false := by rfl) (hn : okDst d n = true := by rfl) :
    GL P C b n ds ops (⟨some d, op, ty, pos, af, none⟩ :: l) i k F M R := by
  refine ⟨fun hj => ?_⟩
  have h0 := hj 0
  simp only [Nat.add_zero, List.getElem?_cons_zero] at h0
  have hr : List.range' i (l.length + 1) = i :: List.range' (i + 1) l.length := by simp [List.range'_succ]
  simp only [List.length_cons]
  rw [hr]
  refine g_opM (by simpa using h0.symm) rfl hd (fun d' e => by cases e; simpa [okDst] using hn) hop fun x => ?_
  exact (h x).h fun j => by have := hj (j + 1); simpa [Nat.add_assoc, Nat.add_comm 1 j] using this

theorem gl_op {d : Nat} {op : Op} {ty : TypeId} {pos : String} {af : Array Edge} {T : Ty}
    (hop : OpT P F M ⟨some d, op, ty, pos, af, none⟩ T) (h : GL P C b n ds ops l (i + 1) k ((d, T) :: F) M R) (hd : isDefer op = false := by rfl) (hn : okDst d n = true := by rfl) :
    GL P C b n ds ops (⟨some d, op, ty, pos, af, none⟩ :: l) i k F M R := gl_opM hop.opM (fun _ => h) hd hn

theorem gl_opM0 {op : Op} {ty : TypeId} {pos : String} {af : Array Edge} {β : Type} {T : β → Ty} {M' : β → List Res}
    (hop : OpM P F M ⟨none, op, ty, pos, af, none⟩ β T M') (h : ∀ x, GL P C b n ds ops l (i + 1) k F (M' x) R) (hd : isDefer op = false := by rfl) :
    GL P C b n ds ops (⟨none, op, ty, pos, af, none⟩ :: l) i k F M R := by
  refine ⟨fun hj => ?_⟩
  have h0 := hj 0
  simp only [Nat.add_zero, List.getElem?_cons_zero] at h0
  have hr : List.range' i (l.length + 1) = i :: List.range' (i + 1) l.length := by simp [List.range'_succ]
  simp only [List.length_cons]
  rw [hr]
  refine g_opM (by simpa using h0.symm) rfl hd (fun d' e => by cases e) hop fun x => ?_
  exact (h x).h fun j => by have := hj (j + 1); simpa [Nat.add_assoc, Nat.add_comm 1 j] using this

/-- What a guard's slot tells. -/
structure GuardC (F : List (Nat × Ty)) (dj : Nat) (want : Bool) (c : Prop) : Prop where
  h : ∃ T, look F dj = some T ∧ ∀ v V, T.p v V → (v = .bool want ↔ c)
theorem gc_is {F : List (Nat × Ty)} {dj : Nat} {want q : Bool} (h : look F dj = some (Is (.bool q))) : GuardC F dj want (q = want) :=
  ⟨_, h, fun v V e => by cases e; simp⟩
theorem gc_when {F : List (Nat × Ty)} {dj : Nat} {want q : Bool} {p : Prop} (h : look F dj = some (When p (Is (.bool q)))) : GuardC F dj want (p ∧ q = want) :=
  ⟨_, h, fun v V e => by
    by_cases hp : p
    · have := e.1 hp; simp only [Is] at this; subst this; simp [hp]
    · have := e.2 hp; subst this; simp [hp, undef]⟩

theorem yields_of {ops : Array Oper} {t : Array Value} {j dj : Nat} (hdj : (ops[j]?).bind (·.dst) = some dj) (hlt : dj < t.size) (b : Bool) : yielded ops t j = some b ↔ t.getD dj undef = .bool b := by
  simp only [yielded, hdj, Option.bind_some, Array.getElem?_eq_getElem hlt, Array.getD_eq_getD_getElem?, Option.getD_some]
  cases t[dj] <;> simp

/-- An operation behind a guard: what it gives is known where the guard says yes. -/
theorem gl_guard {d j dj : Nat} {want : Bool} {c : Prop} {op : Op} {ty : TypeId} {pos : String} {af : Array Edge} {T : Ty}
    (hdj : (ops[j]?).bind (·.dst) = some dj := by rfl) (hg : GuardC F dj want c := by first | exact gc_is rfl | exact gc_when rfl)
    (hop : c → OpT P F M ⟨some d, op, ty, pos, af, some (j, want)⟩ T) (h : GL P C b n ds ops l (i + 1) k ((d, When c T) :: F) M R)
    (hdn : okDst dj n = true := by rfl) (hd : isDefer op = false := by rfl) (hn : okDst d n = true := by rfl) :
    GL P C b n ds ops (⟨some d, op, ty, pos, af, some (j, want)⟩ :: l) i k F M R := by
  refine ⟨fun hj => ?_⟩
  have h0 := hj 0
  simp only [Nat.add_zero, List.getElem?_cons_zero] at h0
  have hr : List.range' i (l.length + 1) = i :: List.range' (i + 1) l.length := by simp [List.range'_succ]
  simp only [List.length_cons]
  rw [hr]
  have hnext := h.h fun j => by have := hj (j + 1); simpa [Nat.add_assoc, Nat.add_comm 1 j] using this
  have hn' : d < n := by simpa [okDst] using hn
  have hdn' : dj < n := by simpa [okDst] using hdn
  refine ⟨fun t w V h1 h2 h3 h4 h5 => ?_⟩
  obtain ⟨Tg, hl, hgc⟩ := hg.h
  have hy := yields_of (ops := ops.toArray) (t := t) (j := j) (dj := dj) (by simpa using hdj) (by omega) want
  have hiff := hgc _ V (h2 dj _ hl)
  by_cases hc : c
  · have hw : Region.wanted ⟨some d, op, ty, pos, af, some (j, want)⟩ (yielded ops.toArray t) = true := by
      simp [Region.wanted, hy.2 (hiff.2 hc)]
    refine Runs.op (o := ⟨some d, op, ty, pos, af, some (j, want)⟩) (by simpa using h0.symm) hw hd (((hop hc).h t w V (h2.o _) h3.has h4).mono ?_)
    rintro v w' ⟨V', e, ht⟩
    exact hnext.h _ w' V' (by rw [size_put]; exact h1) (TF.put (h2.le (e.le h3.has)) (by omega) ⟨fun _ => ht, fun hn => absurd hc hn⟩) (h3.trans e (by simp)) (h4.evo h3.has e (by simp)) h5
  · have hw : Region.wanted ⟨some d, op, ty, pos, af, some (j, want)⟩ (yielded ops.toArray t) = false := by
      have : ¬ yielded ops.toArray t j = some want := fun e => hc (hiff.1 (hy.1 e))
      simp [Region.wanted, this]
    refine Runs.head (fun cs => skip_step (o := ⟨some d, op, ty, pos, af, some (j, want)⟩) (by simpa using h0.symm) hw) ?_
    exact hnext.h _ w V (by rw [size_put]; exact h1) (TF.put h2 (by omega) ⟨fun e => absurd e hc, fun _ => rfl⟩) h3 h4 h5

end

/-- The arguments' types. -/
def TA (args : Array Value) (As : List Ty) (V : View) : Prop := args.size = As.length ∧ ∀ (i : Nat) (A : Ty), As[i]? = some A → A.p (args.getD i undef) V

/-- What a function does: called on arguments of types As, over the resources Mp, it hands back a value of type T x, over M' x, for some x. -/
structure SpecR (P : Program) (f : FuncId) (As : List Ty) (Mp : List Res) (β : Type) (T : β → Ty) (M' : β → List Res) : Prop where
  c : ∀ args w, (callFunc f args).run P w = .ok (.enter f args) w
  h : ∀ w V args, TA args As V → Has w V → Mem Mp w V →
    CallsR P f args w fun v w' => ∃ x V', Evo (ids Mp) w V w' V' ∧ (T x).p v V' ∧ Mem (M' x) w' V' ∧ ∀ b ∈ ids (M' x), b ∈ ids Mp ∨ w.heap.size ≤ b

/-- A function that turns nothing that was there. -/
abbrev FnS (P : Program) (f : FuncId) (As : List Ty) (T : Ty) : Prop := SpecR P f As [] Unit (fun _ => T) (fun _ => [])

/-- What is owed at the return. -/
def Post (C : Ctx) {β : Type} (T : β → Ty) (M' : β → List Res) : Value → World → Prop :=
  fun v w' => ∃ x V', Evo C.X C.w0 C.V0 w' V' ∧ (T x).p v V' ∧ Mem (M' x) w' V' ∧ IdsOk C (M' x)

def enum (As : List Ty) (i : Nat) : List (Nat × Ty) :=
  match As with
  | [] => []
  | A :: As => (i, A) :: enum As (i + 1)

theorem look_enum (As : List Ty) : ∀ i j A, look (enum As i) j = some A → i ≤ j ∧ As[j - i]? = some A := by
  induction As with
  | nil => intro i j A h; simp [enum, look] at h
  | cons B As ih =>
    intro i j A h
    simp only [enum, look] at h
    cases hb : Nat.beq j i with
    | true =>
      rw [hb] at h
      have := Nat.eq_of_beq_eq_true hb
      subst this
      simpa using h
    | false =>
      rw [hb] at h
      have hne : j ≠ i := fun e => by subst e; simp at hb
      obtain ⟨h1, h2⟩ := ih (i + 1) j A h
      refine ⟨by omega, ?_⟩
      rw [show j - i = (j - (i + 1)) + 1 from by omega]
      simpa using h2

theorem TF_enter {args : Array Value} {As : List Ty} {V : View} {n : Nat} (h : TA args As V) : TF (enum As 0) (args ++ Array.replicate (n - args.size) undef) V := by
  intro i T e
  obtain ⟨_, h2⟩ := look_enum As 0 i T e
  simp only [Nat.sub_zero] at h2
  have hi : i < args.size := by rw [h.1]; exact (List.getElem?_eq_some_iff.1 h2).1
  have := h.2 i T h2
  simpa [Array.getD_eq_getD_getElem?, Array.getElem?_append, hi] using this

/-- To prove what a function does: its body, from the arguments on. -/
theorem spec_enter {P : Program} {f : FuncId} {As : List Ty} {Mp : List Res} {β : Type} {T : β → Ty} {M' : β → List Res} {fn : Func} {c : Code} {n : Nat} (hf : P.funcs[f]? = some fn) (hb : fn.body = some c) (hN : fn.ntmps = n) (hc : ∀ args w, (callFunc f args).run P w = .ok (.enter f args) w)
    (hn : As.length ≤ n)
    (h : ∀ C : Ctx, C.X = ids Mp → G P C ⟨f, none⟩ n [] [.code c] (enum As 0) Mp (Post C T M')) : SpecR P f As Mp β T M' := by
  subst hN
  refine ⟨hc, ?_⟩
  intro w V args hA hh hm
  refine CallsR.enter hf hb ?_
  refine Runs.mono ((h ⟨w, V, ids Mp⟩ rfl).h _ w V ?_ (TF_enter hA) (Evo.refl hh) hm (fun b hb => .inl hb)) ?_
  · have := hA.1
    simp; omega
  · rintro v w' ⟨x, V', h1, h2, h3, h4⟩
    exact ⟨x, V', h1, h2, h3, h4⟩

/-- The results, off the slots. -/
structure ResT (P : Program) (fn : Func) (F : List (Nat × Ty)) (M : List Res) (T : Ty) : Prop where
  h : ∀ t w V, TF F t V → Has w V → Mem M w V → ∃ v, (results fn t).run P w = .ok v w ∧ T.p v V

theorem g_ret {P : Program} {C : Ctx} {f : FuncId} {n : Nat} {k : List Item} {F : List (Nat × Ty)} {M : List Res} {β : Type} {T : β → Ty} {M' : β → List Res} {fn : Func}
    (hf : P.funcs[f]? = some fn) (x : β) (hr : ResT P fn F M (T x)) (hM : M' x = M ∨ M' x = []) : G P C ⟨f, none⟩ n [] (.code .ret :: k) F M (Post C T M') := by
    refine ⟨fun t w V _ h2 h3 h4 h5 => ?_⟩
    obtain ⟨v, h6, h7⟩ := hr.h t w V h2 h3.has h4
    refine Runs.ret rfl hf h6 ⟨x, V, h3, h7, ?_⟩
    rcases hM with e | e
    · rw [e]; exact ⟨h4, h5⟩
    · rw [e]; exact ⟨Mem.nil _ _, by simp [IdsOk, ids]⟩

theorem g_fin {P : Program} {C : Ctx} {f : FuncId} {n : Nat} {F : List (Nat × Ty)} {M : List Res} {β : Type} {T : β → Ty} {M' : β → List Res} {fn : Func}
    (hf : P.funcs[f]? = some fn) (x : β) (hr : ResT P fn F M (T x)) (hM : M' x = M ∨ M' x = []) : G P C ⟨f, none⟩ n [] [] F M (Post C T M') := by
    refine ⟨fun t w V _ h2 h3 h4 h5 => ?_⟩
    obtain ⟨v, h6, h7⟩ := hr.h t w V h2 h3.has h4
    refine Runs.fin rfl hf h6 ⟨x, V, h3, h7, ?_⟩
    rcases hM with e | e
    · rw [e]; exact ⟨h4, h5⟩
    · rw [e]; exact ⟨Mem.nil _ _, by simp [IdsOk, ids]⟩

end Go.Rt
