/- The machine layer of the calculus: a frame's run to its return, the steps of its code, one operation, one call. -/
import Derived.Calls
import Derived.Lone
namespace Go.Rt

structure Base where
  fn : FuncId
  round : Option Nat

def Base.at (b : Base) (t : Array Value) (ds : List Deferred) (todo : List Item) : Frame :=
  { fn := b.fn, tmps := t, todo, defers := ds, mode := .run, kind := .normal, roundOf := b.round }

def ev (t : Array Value) : Operand → Value
  | .tmp i => t.getD i undef
  | .const v => v
  | .global g => .pointer (some ⟨g, 0, none⟩)
  | .func f => .func (.func f) #[] #[]

theorem eval_at (b : Base) (t : Array Value) (ds : List Deferred) (todo : List Item) : (b.at t ds todo).eval = ev t := by
  funext x; cases x <;> rfl

/-- The frame's last step: it hands v back, the world is w'. -/
def Ends (P : Program) (b : Base) (fr : Frame) (w : World) (v : Value) (w' : World) : Prop :=
  fr.fn = b.fn ∧ match b.round with
  | none => fr.leaving P w (.returned v) ∧ w' = w
  | some _ => ∀ c cs, step P (lone fr (c :: cs) w) = .next (lone (c.finish v) cs w')

def Runs (P : Program) (b : Base) (fr : Frame) (w : World) (R : Value → World → Prop) : Prop :=
  ∀ cs, ∃ fr1 w1 v w', R v w' ∧ Steps P (lone fr cs w) (lone fr1 cs w1) ∧ Ends P b fr1 w1 v w'

abbrev CallsR (P : Program) (f : FuncId) (args : Array Value) (w : World) (R : Value → World → Prop) : Prop :=
  Runs P ⟨f, none⟩ (Frame.enter P f args .normal) w R

theorem Runs.mono {P : Program} {b : Base} {fr : Frame} {w : World} {R R' : Value → World → Prop} (h : Runs P b fr w R)
    (hr : ∀ v w', R v w' → R' v w') : Runs P b fr w R' :=
  fun cs => let ⟨fr1, w1, v, w', r, s, e⟩ := h cs; ⟨fr1, w1, v, w', hr _ _ r, s, e⟩

theorem Runs.does {P : Program} {b : Base} {fr : Frame} {w : World} {R : Value → World → Prop} (h : Runs P b fr w R) (c : Frame) (cs : List Frame) :
    ∃ v w', R v w' ∧ Steps P (lone fr (c :: cs) w) (lone (c.finish v) cs w') := by
  obtain ⟨fr1, w1, v, w', r, s, hf, e⟩ := h (c :: cs)
  refine ⟨v, w', r, s.trans (.one ?_)⟩
  cases hb : b.round with
  | none =>
    rw [hb] at e
    obtain ⟨e, rfl⟩ := e
    exact step_leave_returned e
  | some l =>
    rw [hb] at e
    exact e c cs

theorem CallsR.calls {P : Program} {f : FuncId} {args : Array Value} {w : World} {R : Value → World → Prop} (h : CallsR P f args w R) :
    Calls P f args w fun e w' => ∃ v, e = .returned v ∧ R v w' := by
  intro cs
  obtain ⟨fr1, w1, v, w', r, s, hf, e, rfl⟩ := h cs
  exact ⟨.returned v, w', fr1, ⟨v, rfl, r⟩, s, hf, e⟩

theorem Runs.head {P : Program} {b : Base} {fr fr' : Frame} {w w' : World} {R : Value → World → Prop}
    (h : ∀ cs, step P (lone fr cs w) = .next (lone fr' cs w')) (h' : Runs P b fr' w' R) : Runs P b fr w R :=
  fun cs => let ⟨fr1, w1, v, w2, r, s, e⟩ := h' cs; ⟨fr1, w1, v, w2, r, .head (h cs) s, e⟩

theorem Runs.steps {P : Program} {b : Base} {fr : Frame} {w : World} {R : Value → World → Prop}
    (h : ∀ cs, ∃ fr' w', Steps P (lone fr cs w) (lone fr' cs w') ∧ Runs P b fr' w' R) : Runs P b fr w R :=
  fun cs => let ⟨_, _, s0, h'⟩ := h cs; let ⟨fr1, w1, v, w2, r, s, e⟩ := h' cs; ⟨fr1, w1, v, w2, r, s0.trans s, e⟩

section moves
variable {P : Program} {b : Base} {t : Array Value} {ds : List Deferred} {k : List Item} {cs : List Frame} {w : World}

theorem m_skip : step P (lone (b.at t ds (.code .skip :: k)) cs w) = .next (lone (b.at t ds k) cs w) :=
  step_lone_go (by simp [stepG, stepG.exec, Base.at])
theorem m_label {l : Nat} : step P (lone (b.at t ds (.code (.label l) :: k)) cs w) = .next (lone (b.at t ds k) cs w) :=
  step_lone_go (by simp [stepG, stepG.exec, Base.at])
theorem m_inBlock {i : Nat} : step P (lone (b.at t ds (.inBlock i :: k)) cs w) = .next (lone (b.at t ds k) cs w) :=
  step_lone_go (by simp [stepG, stepG.exec, Base.at])
theorem m_inScope {c : Code} : step P (lone (b.at t ds (.inScope c :: k)) cs w) = .next (lone (b.at t ds k) cs w) :=
  step_lone_go (by simp [stepG, stepG.exec, Base.at])
theorem m_seq {x y : Code} : step P (lone (b.at t ds (.code (.seq x y) :: k)) cs w) = .next (lone (b.at t ds (.code x :: .code y :: k)) cs w) :=
  step_lone_go (by simp [stepG, stepG.exec, Base.at])
theorem m_cond {c : Operand} {x y : Code} {q : Bool} (h : ev t c = .bool q) :
    step P (lone (b.at t ds (.code (.cond c x y) :: k)) cs w) = .next (lone (b.at t ds (.code (if q then x else y) :: k)) cs w) :=
  step_lone_go (by
    have := congrFun (eval_at b t ds (.code (.cond c x y) :: k)) c
    simp only [Base.at] at this
    simp [stepG, stepG.exec, Base.at, this, h])
theorem m_block {i : Nat} {c : Code} : step P (lone (b.at t ds (.code (.block i c) :: k)) cs w) = .next (lone (b.at t ds (.code c :: .inBlock i :: k)) cs w) :=
  step_lone_go (by simp [stepG, stepG.exec, Base.at])
theorem m_scope {c : Code} : step P (lone (b.at t ds (.code (.scope c) :: k)) cs w) = .next (lone (b.at t ds (.code c :: .inScope c :: k)) cs w) :=
  step_lone_go (by simp [stepG, stepG.exec, Base.at])
theorem m_loop {c : Code} : step P (lone (b.at t ds (.code (.loop c) :: k)) cs w) = .next (lone (b.at t ds (.code c :: .inLoop c :: k)) cs w) :=
  step_lone_go (by simp [stepG, stepG.exec, Base.at])
theorem m_inLoop {c : Code} : step P (lone (b.at t ds (.inLoop c :: k)) cs w) = .next (lone (b.at t ds (.code c :: .inLoop c :: k)) cs w) :=
  step_lone_go (by simp [stepG, stepG.exec, Base.at])
theorem m_exit {i : Nat} {k' : List Item} (h : exitTo i k = some k') : step P (lone (b.at t ds (.code (.exit i) :: k)) cs w) = .next (lone (b.at t ds k') cs w) :=
  step_lone_go (by simp [stepG, stepG.exec, Base.at, h])
theorem m_goto {l : Nat} {k' : List Item} (h : gotoIn l k = some k') : step P (lone (b.at t ds (.code (.goto l) :: k)) cs w) = .next (lone (b.at t ds k') cs w) :=
  step_lone_go (by simp [stepG, stepG.exec, Base.at, h])
theorem m_ret (hb : b.round = none) : step P (lone (b.at t ds (.code .ret :: k)) cs w) = .next (lone { b.at t ds (.code .ret :: k) with mode := .returning } cs w) :=
  step_lone_go (by simp [stepG, stepG.exec, Base.at, hb])
theorem m_end (hb : b.round = none) : step P (lone (b.at t ds []) cs w) = .next (lone { b.at t ds [] with mode := .returning } cs w) :=
  step_lone_go (by simp [stepG, stepG.exec, Base.at, hb])
theorem m_region {i : Nat} {ops : Array Oper} : step P (lone (b.at t ds (.code (.region i ops false) :: k)) cs w) = .next (lone (b.at t ds (.inRegion ops (List.range ops.size) :: k)) cs w) :=
  step_lone_go (by simp [stepG, stepG.exec, Base.at])
theorem m_draw {i : Nat} {ops : Array Oper} : step P (lone (b.at t ds (.code (.region i ops true) :: k)) cs w) =
    .next (lone (b.at t ds (.inRegion ops (Region.schedule (P.follows .mixedOrders) ops (w.tape w.drawn (.order b.fn i))) :: k)) cs { w with drawn := w.drawn + 1 }) :=
  step_lone_go (by simp [stepG, stepG.exec, Base.at, choose, Sem.run, Question.forced, Question.cut])
theorem m_region_end {ops : Array Oper} : step P (lone (b.at t ds (.inRegion ops [] :: k)) cs w) = .next (lone (b.at t ds k) cs w) :=
  step_lone_go (by simp [stepG, stepG.exec, Base.at])
end moves

def put (o : Oper) (v : Value) (t : Array Value) : Array Value :=
  match o.dst with
  | some d => t.setIfInBounds d v
  | none => t

theorem finish_at (b : Base) (t : Array Value) (ds : List Deferred) (ops : Array Oper) (i : Nat) (rest : List Nat) (k : List Item) (v : Value) (o : Oper) (ho : ops[i]? = some o) :
    (b.at t ds (.inRegion ops (i :: rest) :: k)).finish v = b.at (put o v t) ds (.inRegion ops rest :: k) := by
  cases hd : o.dst <;> simp [Frame.finish, Base.at, put, ho, hd]

def OpRuns (P : Program) (o : Oper) (t : Array Value) (w : World) (K : Value → World → Prop) : Prop :=
  match (execOp (ev t) o).run P w with
  | .ok (.value v) w' => K v w'
  | .ok .skip w' => K undef w'
  | .ok (.enter f args) w' => CallsR P f args w' K
  | .ok (.round l f tm a c) w' => Runs P ⟨f, some l⟩ (Frame.round l f tm a c .normal) w' K
  | _ => False

theorem OpRuns.mono {P : Program} {o : Oper} {t : Array Value} {w : World} {K K' : Value → World → Prop} (h : OpRuns P o t w K)
    (hk : ∀ v w', K v w' → K' v w') : OpRuns P o t w K' := by
  unfold OpRuns at *
  split at h
  · exact hk _ _ h
  · exact hk _ _ h
  · exact Runs.mono h hk
  · exact Runs.mono h hk
  · exact h.elim

def isDefer : Op → Bool
  | .defer _ => true
  | _ => false

theorem op_steps {P : Program} {b : Base} {t : Array Value} {ds : List Deferred} {ops : Array Oper} {i : Nat} {rest : List Nat} {k : List Item} {w : World} {o : Oper} {K : Value → World → Prop}
    (ho : ops[i]? = some o) (hw : Region.wanted o (yielded ops t) = true) (hd : isDefer o.op = false) (h : OpRuns P o t w K) (cs : List Frame) :
    ∃ v w', K v w' ∧ Steps P (lone (b.at t ds (.inRegion ops (i :: rest) :: k)) cs w) (lone (b.at (put o v t) ds (.inRegion ops rest :: k)) cs w') := by
  have he := eval_at b t ds (.inRegion ops (i :: rest) :: k)
  simp only [Base.at] at he
  have hg : stepG P true { frame := b.at t ds (.inRegion ops (i :: rest) :: k), callers := cs, status := .running, dying := none } w =
      stepG.apply P true (b.at t ds (.inRegion ops (i :: rest) :: k)) cs none (execOp (ev t) o) w := by
    cases hr : b.round with
    | none => simp [stepG, stepG.exec, stepG.oper, Frame.oper?, Base.at, ho, hw, hr, ← he]
    | some l =>
      cases hop : o.op <;> first
        | (rw [hop] at hd; cases hd; done)
        | simp [stepG, stepG.exec, stepG.oper, Frame.oper?, Base.at, ho, hw, hr, hop, ← he]
  have hfin := finish_at b t ds ops i rest k
  unfold OpRuns at h
  split at h
  · rename_i v w' hr
    refine ⟨v, w', h, .one (step_lone_go ?_)⟩
    rw [hg, ← hfin v o ho]; simp [stepG.apply, hr]
  · rename_i w' hr
    refine ⟨undef, w', h, .one (step_lone_go ?_)⟩
    rw [hg, ← hfin undef o ho]; simp [stepG.apply, hr]
  · rename_i f args w' hr
    obtain ⟨v, w2, hk, hs⟩ := Runs.does h (b.at t ds (.inRegion ops (i :: rest) :: k)) cs
    refine ⟨v, w2, hk, .head (step_lone_go (fr' := Frame.enter P f args .normal) (cs' := b.at t ds (.inRegion ops (i :: rest) :: k) :: cs) (w' := w') ?_) ?_⟩
    · rw [hg]; simp [stepG.apply, hr, Base.at]
    · rw [hfin v o ho] at hs; exact hs
  · rename_i l f tm a c w' hr
    obtain ⟨v, w2, hk, hs⟩ := Runs.does h (b.at t ds (.inRegion ops (i :: rest) :: k)) cs
    refine ⟨v, w2, hk, .head (step_lone_go (fr' := Frame.round l f tm a c .normal) (cs' := b.at t ds (.inRegion ops (i :: rest) :: k) :: cs) (w' := w') ?_) ?_⟩
    · rw [hg]; simp [stepG.apply, hr, Base.at]
    · rw [hfin v o ho] at hs; exact hs
  · exact h.elim

theorem skip_step {P : Program} {b : Base} {t : Array Value} {ds : List Deferred} {ops : Array Oper} {i : Nat} {rest : List Nat} {k : List Item} {cs : List Frame} {w : World} {o : Oper}
    (ho : ops[i]? = some o) (hw : Region.wanted o (yielded ops t) = false) :
    step P (lone (b.at t ds (.inRegion ops (i :: rest) :: k)) cs w) = .next (lone (b.at (put o undef t) ds (.inRegion ops rest :: k)) cs w) := by
  rw [← finish_at b t ds ops i rest k undef o ho]
  refine step_lone_go ?_
  simp [stepG, stepG.exec, Base.at, ho, hw]

theorem Runs.op {P : Program} {b : Base} {t : Array Value} {ds : List Deferred} {ops : Array Oper} {i : Nat} {rest : List Nat} {k : List Item} {w : World} {o : Oper} {R : Value → World → Prop}
    (ho : ops[i]? = some o) (hw : Region.wanted o (yielded ops t) = true) (hd : isDefer o.op = false)
    (h : OpRuns P o t w fun v w' => Runs P b (b.at (put o v t) ds (.inRegion ops rest :: k)) w' R) :
    Runs P b (b.at t ds (.inRegion ops (i :: rest) :: k)) w R :=
  Runs.steps fun cs => let ⟨_, _, hk, hs⟩ := op_steps ho hw hd h cs; ⟨_, _, hs, hk⟩

/-- The world read by the results: the run ends. -/
theorem Runs.ret {P : Program} {b : Base} {t : Array Value} {k : List Item} {w : World} {R : Value → World → Prop} {fn : Func} {v : Value}
    (hb : b.round = none) (hf : P.funcs[b.fn]? = some fn) (hr : (results fn t).run P w = .ok v w) (h : R v w) : Runs P b (b.at t [] (.code .ret :: k)) w R :=
  fun cs => ⟨_, w, v, w, h, .one (m_ret hb), rfl, by rw [hb]; exact ⟨⟨rfl, rfl, rfl, fn, hf, hr⟩, rfl⟩⟩

theorem Runs.fin {P : Program} {b : Base} {t : Array Value} {w : World} {R : Value → World → Prop} {fn : Func} {v : Value}
    (hb : b.round = none) (hf : P.funcs[b.fn]? = some fn) (hr : (results fn t).run P w = .ok v w) (h : R v w) : Runs P b (b.at t [] []) w R :=
  fun cs => ⟨_, w, v, w, h, .one (m_end hb), rfl, by rw [hb]; exact ⟨⟨rfl, rfl, rfl, fn, hf, hr⟩, rfl⟩⟩

theorem CallsR.enter {P : Program} {f : FuncId} {fn : Func} {c : Code} {args : Array Value} {w : World} {R : Value → World → Prop}
    (hf : P.funcs[f]? = some fn) (hb : fn.body = some c)
    (h : Runs P ⟨f, none⟩ ((⟨f, none⟩ : Base).at (args ++ Array.replicate (fn.ntmps - args.size) undef) [] [.code c]) w R) : CallsR P f args w R := by
  have he : Frame.enter P f args .normal = (⟨f, none⟩ : Base).at (args ++ Array.replicate (fn.ntmps - args.size) undef) [] [.code c] := by
    simp [Frame.enter, Base.at, hf, hb]
  unfold CallsR
  rw [he]
  exact h

end Go.Rt
