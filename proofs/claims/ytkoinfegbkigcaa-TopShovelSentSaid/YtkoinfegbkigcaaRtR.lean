/- A range over a function: the loop's record, its rounds, the block of its deferred calls. -/
import Derived.Test.YtkoinfegbkigcaaRtO
namespace Go.Rt

def DeferR (r : Nat) : Res := ⟨some r, fun o _ => o = some (.deferred (some [])), fun _ _ _ _ h => h⟩
def DeferN (r : Nat) : Res := ⟨some r, fun o _ => o = some (.deferred none), fun _ _ _ _ h => h⟩
def LoopR (l : Nat) (c : Loop) : Res := ⟨some l, fun o _ => o = some (.loop c), fun _ _ _ _ h => h⟩

structure LoopC where
  fn : FuncId
  tmps : Array Value
  params : Array Tmp
  assign : Code
  body : Code
  defers : Nat

def LoopC.at (c : LoopC) (s : LoopState) : Loop := { state := s, pending := none, fn := c.fn, tmps := c.tmps, params := c.params, assign := c.assign, body := c.body, defers := c.defers }

theorem DeferR.get {r : Nat} {w : World} {V : View} (h : (DeferR r).at w V) : w.heap[r]? = some (.deferred (some [])) := by
  obtain ⟨o, h1, _, h3⟩ := h
  cases h3
  exact h1
theorem LoopR.get {l : Nat} {c : Loop} {w : World} {V : View} (h : (LoopR l c).at w V) : w.heap[l]? = some (.loop c) := by
  obtain ⟨o, h1, _, h3⟩ := h
  cases h3
  exact h1

/-- The world with another object in block l. -/
def wput (w : World) (l : Nat) (o : Obj) : World := { w with heap := w.heap.setIfInBounds l o }

theorem wput_other (w : World) (l : Nat) (o : Obj) (k : Nat) (h : k ≠ l) : (wput w l o).heap[k]? = w.heap[k]? := by
  simp only [wput]
  rw [Array.getElem?_setIfInBounds, if_neg (fun e => h e.symm)]
theorem wput_self {w : World} {l : Nat} (o : Obj) (h : l < w.heap.size) : (wput w l o).heap[l]? = some o := by
  simp [wput, h]

theorem mem_put {M M' : List Res} {r r' : Res} {w : World} {V : View} {l : Nat} {o : Obj} (hh : Has w V) (hm : Mem M w V) (hu : Upd M r M' r') (hid : r.id = some l) (hid' : r'.id = some l) (hr : r'.p (some o) V) :
    Mem M' (wput w l o) V ∧ ids M' = ids M ∧ Evo [l] w V (wput w l o) V := by
  have hl : l < w.heap.size := hm.lt (mem_ids.2 ⟨r, hu.mem, hid⟩)
  have hV : V l = none := hm.hidden (mem_ids.2 ⟨r, hu.mem, hid⟩)
  have h1 := hm.upd hu hid hid' (wput_other w l o) (wput_self o hl) hr
  exact ⟨h1.1, h1.2, evo_upd hh (by simp) hV rfl rfl rfl (by simp [wput]) (wput_other w l o)⟩

section moves
variable {P : Program} {b : Base} {t : Array Value} {ds : List Deferred} {k : List Item} {cs : List Frame} {w : World} {l : Nat} {c : Loop}

theorem m_beginRound (hb : b.round = some l) (h : w.heap[l]? = some (.loop c)) (hs : c.state = .ready) :
    step P (lone (b.at t ds (.beginRound :: k)) cs w) = .next (lone (b.at t ds k) cs (wput w l (.loop { c with state := .busy }))) :=
  step_lone_go (by simp [stepG, stepG.exec, stepG.apply, Base.at, hb, Instr.beginRound, Instr.getLoop, getObj, setObj, Sem.run, h, hs, Frame.finish, wput])

theorem m_endRound {x : Frame} (hb : b.round = some l) (h : w.heap[l]? = some (.loop c)) :
    step P (lone (b.at t ds []) (x :: cs) w) = .next (lone (x.finish (.bool true)) cs (wput w l (.loop { c with state := .ready, pending := none }))) :=
  step_lone_go (by simp [stepG, stepG.exec, Base.at, hb, Instr.endRound, Instr.getLoop, getObj, setObj, Sem.run, h, doReturn, wput])

theorem m_endLoop (h : w.heap[l]? = some (.loop c)) (hs : c.state = .ready) (hp : c.pending = none) :
    step P (lone (b.at t ds (.endRangeFunc l :: k)) cs w) = .next (lone (b.at t ds k) cs (wput w l (.loop { c with state := .exhausted }))) :=
  step_lone_go (by simp [stepG, stepG.exec, Base.at, Instr.endLoop, Instr.getLoop, getObj, setObj, Sem.run, h, hs, hp, wput])

theorem m_collect {fr : Frame} {r : Nat} (hm : fr.mode = .returning) (hd : fr.defers = [{ target := .collected r, args := #[] }]) (h : w.heap[r]? = some (.deferred (some []))) :
    step P (lone fr cs w) = .next (lone { fr with defers := [] } cs (wput w r (.deferred none))) :=
  step_lone_go (by simp [stepG, unwind, hm, hd, Instr.takeDeferred, getObj, setObj, Sem.run, h, wput])

/-- A closure of function g. -/
def Clo (g : FuncId) (Cs : List Ty) : Ty := ⟨fun v V => ∃ cap, v = .func (.func g) #[] cap ∧ TA cap Cs V, fun _ _ _ hl ⟨cap, h1, h2⟩ => ⟨cap, h1, h2.le hl⟩⟩

theorem m_rangeFunc {f : Operand} {g : FuncId} {cap : Array Value} {params : Array Tmp} {asg body : Code} (hb : b.round = none) (hf : ev t f = .func (.func g) #[] cap)
    (hc : ∀ args w, (callFunc g args).run P w = .ok (.enter g args) w) :
    step P (lone (b.at t ds (.code (.rangeFunc f params asg body) :: k)) cs w) =
      .next (lone (Frame.enter P g (#[.func (.yield (w.heap.size + 1)) #[] #[]] ++ cap) .normal) (b.at t ({ target := .collected w.heap.size, args := #[] } :: ds) (.inRangeFunc (w.heap.size + 1) :: k) :: cs)
        { w with heap := (w.heap.push (.deferred (some []))).push (.loop ((⟨b.fn, t, params, asg, body, w.heap.size⟩ : LoopC).at .ready)) }) :=
  step_lone_go (by
    have he := eval_at b t ({ target := .collected w.heap.size, args := #[] } :: ds) (.inRangeFunc (w.heap.size + 1) :: k)
    simp only [Base.at, hb] at he
    simp [stepG, stepG.exec, stepG.apply, Base.at, hb, Instr.enterLoop, newObj, Sem.run, LoopC.at, resolve, he, hf, ev_const, Deferred.ofValue, invoke, hc]
    rfl)

end moves

theorem Mem.split {L S : List Res} {w : World} {V : View} (h : Mem (L ++ S) w V) : Mem L w V ∧ Mem S w V ∧ ∀ b ∈ ids L, b ∉ ids S := by
  have hids : ids (L ++ S) = ids L ++ ids S := by simp [ids]
  have hn := h.nodup
  rw [hids, List.nodup_append] at hn
  exact ⟨⟨hn.1, fun r hr => h.all r (by simp [hr])⟩, ⟨hn.2.1, fun r hr => h.all r (by simp [hr])⟩, fun b hb hb' => hn.2.2 b hb b hb' rfl⟩

theorem Mem.join {L S : List Res} {w : World} {V : View} (h1 : Mem L w V) (h2 : Mem S w V) (hd : ∀ b ∈ ids L, b ∉ ids S) : Mem (L ++ S) w V := by
  have hids : ids (L ++ S) = ids L ++ ids S := by simp [ids]
  refine ⟨?_, fun r hr => (List.mem_append.1 hr).elim (h1.all r) (h2.all r)⟩
  rw [hids, List.nodup_append]
  exact ⟨h1.nodup, h2.nodup, fun a ha b hb e => by subst e; exact hd a ha hb⟩

theorem ids_append (L S : List Res) : ids (L ++ S) = ids L ++ ids S := by simp [ids]

/-- What a call that is handed the resources S leaves of L ++ S. -/
theorem Mem.after {L S S' : List Res} {w w' : World} {V V' : View} (hh : Has w V) (h : Mem (L ++ S) w V) (he : Evo (ids S) w V w' V') (hm : Mem S' w' V') (hi : ∀ b ∈ ids S', b ∈ ids S ∨ w.heap.size ≤ b) :
    Mem (L ++ S') w' V' ∧ ∀ b ∈ ids (L ++ S'), b ∈ ids (L ++ S) ∨ w.heap.size ≤ b := by
  obtain ⟨h1, h2, h3⟩ := h.split
  refine ⟨(h1.evo hh he h3).join hm fun b hb hb' => ?_, fun b hb => ?_⟩
  · rcases hi b hb' with h4 | h4
    · exact h3 b hb h4
    · exact absurd (h1.lt hb) (by omega)
  · rw [ids_append, List.mem_append] at hb
    rw [ids_append, List.mem_append]
    rcases hb with hb | hb
    · exact .inl (.inl hb)
    · exact (hi b hb).imp .inr id

/-- The function that a loop's body is called by: called for the k-th time, in state (k, i), it leads to some (k + 1, i'). -/
def YieldV (P : Program) {ι : Type} (N : Nat) (A : Nat → List Ty) (St : Nat → ι → List Res) : Ty :=
  ⟨fun v V => ∃ l, v = .func (.yield l) #[] #[] ∧ ∀ k, k < N → ∀ (i : ι) w V' args, View.Le V V' → Has w V' → TA args (A k) V' → Mem (St k i) w V' →
      ∃ fn tm asg body, (Instr.yield l args).run P w = .ok (.round l fn tm asg body) w ∧ Runs P ⟨fn, some l⟩ (Frame.round l fn tm asg body .normal) w fun v w' =>
        ∃ i' V'', Evo (ids (St k i)) w V' w' V'' ∧ (Is (.bool true)).p v V'' ∧ Mem (St (k + 1) i') w' V'' ∧ ∀ b ∈ ids (St (k + 1) i'), b ∈ ids (St k i) ∨ w.heap.size ≤ b,
   fun _ _ _ hl ⟨l, h1, h2⟩ => ⟨l, h1, fun k hk i w V' args hl' => h2 k hk i w V' args (hl.trans hl')⟩⟩

section
variable {P : Program} {F : List (Nat × Ty)} {M : List Res} {o : Oper} {T : Ty}

theorem m_yield {ι : Type} {N : Nat} {A : Nat → List Ty} {St : Nat → ι → List Res} {y : Operand} {xs : List Operand} {ats : Array TypeId} (L : List Res) (k : Nat) (i : ι) (hk : k < N) (hM : M = L ++ St k i) (ho : o.op = .call { callee := .value y, args := xs.toArray, argTypes := ats } := by rfl)
    (hy : OT F y (YieldV P N A St) := by exact ot_tmp rfl) (hx : OTs F xs (A k) := by (repeat (first | exact trivial | refine ⟨by first | exact ot_tmp rfl | exact ot_const, ?_⟩)); first | done | fail) :
    OpM P F M o ι (fun _ => Is (.bool true)) (fun i' => L ++ St (k + 1) i') := by
  subst hM
  refine ⟨fun tm w V hf hh hm => ?_⟩
  obtain ⟨l, h1, h2⟩ := hy.h tm V (hf _ (by simp [ho, Op.operands, Call.operands]))
  have hta := hx.ta fun x hm => hf x (by simp [ho, Op.operands, Call.operands, hm])
  obtain ⟨fn, tm', asg, body, h3, h4⟩ := h2 k hk i w V _ (View.Le.refl _) hh hta hm.split.2.1
  unfold OpRuns
  have : (execOp (ev tm) o).run P w = .ok (.round l fn tm' asg body) w := by
    simp [execOp, ho, resolve, h1, Deferred.ofValue, invoke, ← h3]
  rw [this]
  refine Runs.mono h4 fun v w' ⟨i', V'', g1, g2, g3, g4⟩ => ?_
  obtain ⟨m1, m2⟩ := Mem.after hh hm g1 g3 g4
  exact ⟨i', V'', g1.weaken (fun b hb => by rw [ids_append]; exact List.mem_append.2 (.inr hb)), g2, m1, m2⟩

theorem t_clo {g : FuncId} {xs : List Operand} {Cs : List Ty} (ho : o.op = .makeFunc (.func g) #[] xs.toArray := by rfl)
    (hx : OTs F xs Cs := by (repeat (first | exact trivial | refine ⟨by first | exact ot_tmp rfl | exact ot_const, ?_⟩)); first | done | fail) : OpT P F M o (Clo g Cs) :=
  opT_val fun tm V w hf _ _ => by
    have hta := hx.ta fun x hm => hf x (by simp [ho, Op.operands, hm])
    exact ⟨.func (.func g) #[] (xs.toArray.map (ev tm)), by simp [execOp, ho, Instr.makeFunc], _, rfl, hta⟩
end

/-- The slots behind a round's parameters. -/
def putAll : List Tmp → List Ty → List (Nat × Ty) → List (Nat × Ty)
  | p :: ps, A :: As, F => putAll ps As ((p, A) :: F)
  | _, _, F => F

theorem tf_putAll {V : View} {n : Nat} : ∀ (ps : List Tmp) (as : List Value) (As : List Ty) (F : List (Nat × Ty)) (t : Array Value), as.length = As.length → ps.length = As.length → (∀ p ∈ ps, p < n) →
    (∀ (i : Nat) (A : Ty), As[i]? = some A → A.p (as.getD i undef) V) → t.size = n → TF F t V →
    TF (putAll ps As F) ((ps.zip as).foldl (fun t x => t.setIfInBounds x.1 x.2) t) V ∧ ((ps.zip as).foldl (fun t x => t.setIfInBounds x.1 x.2) t).size = n
  | [], as, As, F, t, _, h2, _, _, h5, h6 => by
    match As, h2 with
    | [], _ => exact ⟨by simpa [putAll] using h6, by simpa using h5⟩
  | p :: ps, as, As, F, t, h1, h2, h3, h4, h5, h6 => by
    match As, as, h2, h1 with
    | A :: As, a :: as, h2, h1 =>
      have := tf_putAll (V := V) (n := n) ps as As ((p, A) :: F) (t.setIfInBounds p a) (by simpa using h1) (by simpa using h2) (fun q hq => h3 q (by simp [hq]))
        (fun i B e => by simpa using h4 (i + 1) B (by simpa using e)) (by simpa using h5) (h6.put (by rw [h5]; exact h3 p (by simp)) (by simpa using h4 0 A rfl))
      simpa [putAll] using this

section
variable {P : Program} {C : Ctx} {b : Base} {n : Nat} {ds : List Deferred} {k : List Item} {F : List (Nat × Ty)} {M : List Res} {R : Value → World → Prop}

theorem g_beginRound {M' : List Res} {l : Nat} {c : LoopC} (hb : b.round = some l) (hu : Upd M (LoopR l (c.at .ready)) M' (LoopR l (c.at .busy)) := by (repeat (first | exact Upd.head | apply Upd.tail)); first | done | fail) (h : G P C b n ds k F M' R) : G P C b n ds (.beginRound :: k) F M R :=
  ⟨fun t w V h1 h2 h3 h4 h5 => by
    have hg := LoopR.get (h4.all _ hu.mem)
    obtain ⟨g1, g2, g3⟩ := mem_put (o := .loop (c.at .busy)) h3.has h4 hu rfl rfl rfl
    exact .head (fun _ => m_beginRound hb hg rfl) (h.h t _ V h1 h2 (h3.trans g3 (fun x hx => by simp at hx; subst hx; exact h5 _ (mem_ids.2 ⟨_, hu.mem, rfl⟩))) g1 (fun x hx => h5 x (g2 ▸ hx)))⟩

theorem g_endRound {l : Nat} {c : LoopC} {β : Type} {M' : β → List Res} (hb : b.round = some l) (x : β) (hu : Upd M (LoopR l (c.at .busy)) (M' x) (LoopR l (c.at .ready)) := by (repeat (first | exact Upd.head | apply Upd.tail)); first | done | fail) :
    G P C b n ds [] F M (Post C (fun _ => Is (.bool true)) M') :=
  ⟨fun t w V h1 h2 h3 h4 h5 cs => by
    have hg := LoopR.get (h4.all _ hu.mem)
    obtain ⟨g1, g2, g3⟩ := mem_put (o := .loop (c.at .ready)) h3.has h4 hu rfl rfl rfl
    refine ⟨b.at t ds [], w, .bool true, wput w l (.loop (c.at .ready)), ⟨x, V, ?_, rfl, g1, fun b' hb' => h5 b' (g2 ▸ hb')⟩, .refl _ _, rfl, ?_⟩
    · exact h3.trans g3 (fun y hy => by simp at hy; subst hy; exact h5 _ (mem_ids.2 ⟨_, hu.mem, rfl⟩))
    · rw [hb]
      intro y ys
      exact m_endRound hb hg⟩

theorem g_rangeFunc {g : FuncId} {Cs : List Ty} {f : Operand} {ps : List Tmp} {asg body : Code} {ι : Type} {N : Nat} {A : Nat → List Ty} {Sb : Nat → ι → List Res} (L : List Res) (i0 : ι) (hb : b.round = none) (hM : M = L ++ Sb 0 i0) (hf : OT F f (Clo g Cs))
    (hiter : ∀ St : Nat → ι → List Res, SpecR P g (YieldV P N A St :: Cs) (St 0 i0) ι (fun _ => anyTy) (fun i => St N i))
    (hp : ∀ k, k < N → ps.length = (A k).length) (hn : ∀ p ∈ ps, p < n)
    (hround : ∀ (l : Nat) (c : LoopC) (C' : Ctx) (j : Nat) (i : ι), j < N → C'.X = ids (LoopR l (c.at .ready) :: Sb j i) →
      G P C' ⟨b.fn, some l⟩ n [] [.code asg, .beginRound, .code body] (putAll ps (A j) F) (LoopR l (c.at .ready) :: Sb j i) (Post C' (fun _ => Is (.bool true)) (fun i' => LoopR l (c.at .ready) :: Sb (j + 1) i')))
    (hdone : ∀ r i, G P C b n ({ target := .collected r, args := #[] } :: ds) k F (DeferR r :: (L ++ Sb N i)) R) :
    G P C b n ds (.code (.rangeFunc f ps.toArray asg body) :: k) F M R := by
  subst hM
  refine ⟨fun t w V h1 h2 h3 h4 h5 => ?_⟩
  obtain ⟨cap, f1, f2⟩ := hf.h t V (h2.x _)
  let c : LoopC := ⟨b.fn, t, ps.toArray, asg, body, w.heap.size⟩
  let l := w.heap.size + 1
  let w1 : World := { w with heap := w.heap.push (.deferred (some [])) }
  let w2 : World := { w1 with heap := w1.heap.push (.loop (c.at .ready)) }
  have hs1 : w1.heap.size = w.heap.size + 1 := by simp [w1]
  have e1 : Evo [] w V w1 V := evo_push_hidden h3.has _
  have e2 : Evo [] w1 V w2 V := evo_push_hidden e1.has _
  have m1 : Mem (DeferR w.heap.size :: (L ++ Sb 0 i0)) w1 V := h4.push (r := DeferR w.heap.size) h3.has rfl rfl
  have m2 : Mem (LoopR l (c.at .ready) :: DeferR w.heap.size :: (L ++ Sb 0 i0)) w2 V := m1.push (r := LoopR l (c.at .ready)) e1.has (by simp [LoopR, l, hs1]) rfl
  have m3 : Mem ((DeferR w.heap.size :: L) ++ (LoopR l (c.at .ready) :: Sb 0 i0)) w2 V := m2.perm (by
    rw [List.cons_append]
    refine (List.Perm.swap _ _ _).trans ((List.perm_middle.symm).cons _))
  let St : Nat → ι → List Res := fun j i => LoopR l (c.at .ready) :: Sb j i
  have hyield : (YieldV P N A St).p (.func (.yield l) #[] #[]) V := by
    refine ⟨l, rfl, fun j hj i w' V' args hl hh ha hm => ⟨b.fn, (ps.zip args.toList).foldl (fun t x => t.setIfInBounds x.1 x.2) t, asg, body, ?_, ?_⟩⟩
    · have hg := LoopR.get (hm.all (LoopR l (c.at .ready)) (by simp [St]))
      have hsz : args.size = ps.length := by rw [ha.1, hp j hj]
      have hfold : (ps.toArray.zip args).foldl (fun tmps (t, a) => tmps.setIfInBounds t a) t = (ps.zip args.toList).foldl (fun t x => t.setIfInBounds x.1 x.2) t := by
        rw [← Array.foldl_toList, Array.toList_zip]
      simp [Instr.yield, Instr.getLoop, getObj, Sem.run, hg, LoopC.at, c, hsz]
      simpa [hsz] using hfold
    · have ha1 : args.toList.length = (A j).length := by simpa using ha.1
      obtain ⟨p1, p2⟩ := tf_putAll (V := V') (n := n) ps args.toList (A j) F t ha1 (hp j hj) hn (fun i' B e => by
        have := ha.2 i' B e
        simpa [Array.getD_eq_getD_getElem?, List.getD] using this) h1 (h2.le hl)
      exact (hround l c ⟨w', V', ids (St j i)⟩ j i hj rfl).h _ w' V' p2 p1 (Evo.refl hh) hm (fun b' hb' => .inl hb')
  have hcall := (hiter St).h w2 V (#[.func (.yield l) #[] #[]] ++ cap) (ta_append (xs := #[.func (.yield l) #[] #[]]) (As := [YieldV P N A St]) ⟨rfl, fun i B e => by
      match i, e with
      | 0, e => cases e; exact hyield⟩ f2) e2.has m3.split.2.1
  refine .steps fun cs => ?_
  obtain ⟨v, w3, ⟨i, V3, g1, _, g3, g4⟩, hsteps⟩ := Runs.does hcall (b.at t ({ target := .collected w.heap.size, args := #[] } :: ds) (.inRangeFunc l :: k)) cs
  obtain ⟨m4, m5⟩ := Mem.after (L := DeferR w.heap.size :: L) e2.has m3 g1 g3 g4
  have m6 : Mem (LoopR l (c.at .ready) :: (DeferR w.heap.size :: (L ++ Sb N i))) w3 V3 := m4.perm (by
    show ((DeferR w.heap.size :: L) ++ (LoopR l (c.at .ready) :: Sb N i)).Perm _
    rw [List.cons_append]
    refine ((List.perm_middle).cons _).trans (List.Perm.swap _ _ _))
  have hg := LoopR.get (m6.all _ (List.Mem.head _))
  obtain ⟨q1, q2, q3⟩ := mem_put (o := .loop (c.at .exhausted)) g1.has m6 (.head (r' := LoopR l (c.at .exhausted))) rfl rfl rfl
  have hw2 : w2.heap.size = w.heap.size + 2 := by simp [w2, hs1]
  refine ⟨b.at t ({ target := .collected w.heap.size, args := #[] } :: ds) k, wput w3 l (.loop (c.at .exhausted)), ?_, ?_⟩
  · refine Steps.trans (Steps.head (m_rangeFunc hb f1 (hiter St).c) hsteps) ?_
    exact .one (m_endLoop hg rfl rfl)
  · have hall : Evo C.X C.w0 C.V0 (wput w3 l (.loop (c.at .exhausted))) V3 := by
      have a1 := h3.trans (e1.trans e2 (by simp)) (by simp)
      have a2 := a1.trans g1 (fun b' hb' => by
        rcases List.mem_cons.1 (show b' ∈ l :: ids (Sb 0 i0) by rw [ids_cons_some (r := LoopR l (c.at .ready)) rfl] at hb'; exact hb') with h | h
        · right; have := h3.size; omega
        · exact h5 b' (by rw [ids_append]; exact List.mem_append.2 (.inr h)))
      refine a2.trans q3 (fun b' hb' => ?_)
      simp at hb'
      right; have := h3.size; omega
    have hrest : Mem (DeferR w.heap.size :: (L ++ Sb N i)) (wput w3 l (.loop (c.at .exhausted))) V3 := ⟨(Del.head.nodup q1.nodup).1, fun x hx => q1.all x (List.mem_cons_of_mem _ hx)⟩
    refine (hdone w.heap.size i).h t _ V3 h1 (h2.le (((e1.trans e2 (by simp)).le h3.has).trans (g1.le e2.has))) hall hrest ?_
    intro b' hb'
    rw [ids_cons_some (r := DeferR w.heap.size) rfl, ids_append] at hb'
    rcases List.mem_cons.1 hb' with h | h
    · right; have := h3.size; omega
    · rcases List.mem_append.1 h with h | h
      · exact h5 b' (by rw [ids_append]; exact List.mem_append.2 (.inl h))
      · rcases g4 b' (by rw [ids_cons_some (r := LoopR l (c.at .ready)) rfl]; exact List.mem_cons_of_mem _ h) with h' | h'
        · rw [ids_cons_some (r := LoopR l (c.at .ready)) rfl] at h'
          rcases List.mem_cons.1 h' with h'' | h''
          · right; have := h3.size; omega
          · exact h5 b' (by rw [ids_append]; exact List.mem_append.2 (.inr h''))
        · right; have := h3.size; omega

/-- The return of a function that has ranged over a function. -/
theorem g_retD {f : FuncId} {β : Type} {T : β → Ty} {M' : β → List Res} {M1 : List Res} {fn : Func} {r : Nat} (hf : P.funcs[f]? = some fn) (x : β) (hr : ResT P fn F M1 (T x)) (hM : M' x = M1 ∨ M' x = []) (hd : Del M (DeferR r) M1 := by (repeat (first | exact Del.head | apply Del.tail)); first | done | fail) :
    G P C ⟨f, none⟩ n [{ target := .collected r, args := #[] }] (.code .ret :: k) F M (Post C T M') := by
  refine ⟨fun t w V _ h2 h3 h4 h5 => ?_⟩
  have hg := DeferR.get (h4.all _ hd.mem)
  have hlt : r < w.heap.size := h4.lt (mem_ids.2 ⟨_, hd.mem, rfl⟩)
  have m0 : Mem (DeferR r :: M1) w V := h4.perm hd.perm
  obtain ⟨q1, q2, q3⟩ := mem_put (o := .deferred none) h3.has m0 (.head (r' := DeferN r)) rfl rfl rfl
  have m1 : Mem M1 (wput w r (.deferred none)) V := ⟨(Del.head.nodup q1.nodup).1, fun y hy => q1.all y (by simp [hy])⟩
  have e1 := h3.trans q3 (fun b' hb' => by simp at hb'; subst hb'; exact h5 _ (mem_ids.2 ⟨_, hd.mem, rfl⟩))
  obtain ⟨v, h6, h7⟩ := hr.h t _ V h2 e1.has m1
  have hIds : IdsOk C M1 := fun b' hb' => by
    obtain ⟨y, hy, hyb⟩ := mem_ids.1 hb'
    exact h5 b' (mem_ids.2 ⟨y, hd.sub y hy, hyb⟩)
  intro cs
  refine ⟨{ (⟨f, none⟩ : Base).at t [] (.code .ret :: k) with mode := .returning }, wput w r (.deferred none), v, wput w r (.deferred none), ⟨x, V, e1, h7, ?_⟩, ?_, rfl, ⟨rfl, rfl, rfl, fn, hf, h6⟩, rfl⟩
  · rcases hM with e | e
    · rw [e]; exact ⟨m1, hIds⟩
    · rw [e]; exact ⟨Mem.nil _ _, by simp [IdsOk, ids]⟩
  · exact .head (m_ret rfl) (.one (m_collect (fr := { (⟨f, none⟩ : Base).at t [{ target := .collected r, args := #[] }] (.code .ret :: k) with mode := .returning }) rfl rfl hg))
end
/-- An operation that makes something new: q tells it, by the world in which it is made. -/
structure OpMq (P : Program) (F : List (Nat × Ty)) (M : List Res) (o : Oper) (β : Type) (T : β → Ty) (M' : β → List Res) (q : World → β → Prop) : Prop where
  h : ∀ t w V, TFo F o t V → Has w V → Mem M w V →
    OpRuns P o t w fun v w' => ∃ x V', Evo (ids M) w V w' V' ∧ (T x).p v V' ∧ Mem (M' x) w' V' ∧ (∀ b ∈ ids (M' x), b ∈ ids M ∨ w.heap.size ≤ b) ∧ q w x

theorem m_allocq {P : Program} {F : List (Nat × Ty)} {M : List Res} {o : Oper} {t : TypeId} {z : Value} {Ts : List Ty} (ho : o.op = .alloc t := by rfl) (g : ZeroT P t z := by infer_instance) (hT : z.cells.toList.map Is = Ts := by exact rfl) : OpMq P F M o Nat (fun b => Is (.pointer (some ⟨b, 0, none⟩))) (fun b => Cells b t Ts :: M) (fun w b => w.heap.size ≤ b) := by
  subst hT
  refine ⟨fun tm w V hf hh hm => ?_⟩
  unfold OpRuns
  have : (execOp (ev tm) o).run P w = .ok (.value (.pointer (some ⟨w.heap.size, 0, none⟩))) { w with heap := w.heap.push (.cells z.cells t) } := by
    simp [execOp, ho, Instr.alloc, newVar, newRow, newObj, Sem.run, g.h]
  rw [this]
  refine ⟨w.heap.size, V, evo_push_hidden hh _, rfl, hm.push hh rfl ⟨z.cells, rfl, by simp, fun i T e => ?_⟩, ?_, Nat.le_refl _⟩
  · rw [List.getElem?_map] at e
    cases hc : z.cells.toList[i]? with
    | none => rw [hc] at e; cases e
    | some c => rw [hc] at e; cases e; exact ⟨c, by simpa using hc, rfl⟩
  · intro b hb
    rw [ids_cons_some (r := Cells w.heap.size t _) rfl] at hb
    rcases List.mem_cons.1 hb with rfl | hb
    · exact .inr (Nat.le_refl _)
    · exact .inl hb

section
variable {P : Program} {C : Ctx} {b : Base} {n : Nat} {ds : List Deferred} {k : List Item} {F : List (Nat × Ty)} {M : List Res} {R : Value → World → Prop}
theorem g_opMq {ops : Array Oper} {i : Nat} {rest : List Nat} {o : Oper} {β : Type} {T : β → Ty} {M' : β → List Res} {q : World → β → Prop} (ho : ops[i]? = some o) (hg : o.guard = none) (hd : isDefer o.op = false)
    (hn : ∀ d, o.dst = some d → d < n) (hop : OpMq P F M o β T M' q) (h : ∀ x, (∃ w, C.w0.heap.size ≤ w.heap.size ∧ q w x) → G P C b n ds (.inRegion ops rest :: k) (wr o (T x) F) (M' x) R) :
    G P C b n ds (.inRegion ops (i :: rest) :: k) F M R := by
  refine ⟨fun t w V h1 h2 h3 h4 h5 => ?_⟩
  refine Runs.op ho (by simp [Region.wanted, hg]) hd ((hop.h t w V (h2.o _) h3.has h4).mono ?_)
  rintro v w' ⟨x, V', e, ht, hm, hi, hq⟩
  have hev : Evo C.X C.w0 C.V0 w' V' := h3.trans e h5
  refine (h x ⟨w, h3.size, hq⟩).h _ w' V' (by rw [size_put]; exact h1) (TF.wr (h2.le (e.le h3.has)) (fun d hd' => by rw [h1]; exact hn d hd') ht) hev hm ?_
  intro b' hb'
  rcases hi b' hb' with h6 | h6
  · exact h5 b' h6
  · exact .inr (Nat.le_trans h3.size h6)

theorem gl_opMq {ops l : List Oper} {i : Nat} {d : Nat} {op : Op} {ty : TypeId} {pos : String} {af : Array Edge} {β : Type} {T : β → Ty} {M' : β → List Res} {q : World → β → Prop}
    (hop : OpMq P F M ⟨some d, op, ty, pos, af, none⟩ β T M' q) (h : ∀ x, (∃ w, C.w0.heap.size ≤ w.heap.size ∧ q w x) → GL P C b n ds ops l (i + 1) k ((d, T x) :: F) (M' x) R) (hd : isDefer op = false := by rfl) (hn : okDst d n = true := by rfl) :
    GL P C b n ds ops (⟨some d, op, ty, pos, af, none⟩ :: l) i k F M R := by
  refine ⟨fun hj => ?_⟩
  have h0 := hj 0
  simp only [Nat.add_zero, List.getElem?_cons_zero] at h0
  have hr : List.range' i (l.length + 1) = i :: List.range' (i + 1) l.length := by simp [List.range'_succ]
  simp only [List.length_cons]
  rw [hr]
  refine g_opMq (by simpa using h0.symm) rfl hd (fun d' e => by cases e; simpa [okDst] using hn) hop fun x hx => ?_
  exact (h x hx).h fun j => by have := hj (j + 1); simpa [Nat.add_assoc, Nat.add_comm 1 j] using this

/-- A new variable: its block lies behind all that was there. -/
theorem gl_alloc {ops l : List Oper} {i : Nat} {d : Nat} {t : TypeId} {ty : TypeId} {pos : String} {af : Array Edge} {z : Value} {Ts : List Ty} (g : ZeroT P t z := by infer_instance) (hT : z.cells.toList.map Is = Ts := by exact rfl)
    (h : ∀ bl, C.w0.heap.size ≤ bl → GL P C b n ds ops l (i + 1) k ((d, Is (.pointer (some ⟨bl, 0, none⟩))) :: F) (Cells bl t Ts :: M) R) (hn : okDst d n = true := by rfl) :
    GL P C b n ds ops (⟨some d, .alloc t, ty, pos, af, none⟩ :: l) i k F M R :=
  gl_opMq (m_allocq (g := g) (hT := hT)) (fun x ⟨w, h1, h2⟩ => h x (Nat.le_trans h1 h2)) rfl hn

theorem e_cellsL {M' : List Res} {bl s : Nat} {E : TypeId} {Ts : List Ty} (hs : look F s = some (Is (.pointer (some ⟨bl, 0, none⟩)))) (hlt : ∀ x ∈ C.X, x < C.w0.heap.size) (hle : C.w0.heap.size ≤ bl) (hd : Del M (Cells bl E Ts) M' := by (repeat (first | exact Del.head | apply Del.tail)); first | done | fail) :
    Ent C F M ((s, PtrTo Ts) :: F) M' := e_cells hs (fun h => absurd (hlt _ h) (by omega)) hd
end

theorem spec_enterL {P : Program} {f : FuncId} {As : List Ty} {Mp : List Res} {β : Type} {T : β → Ty} {M' : β → List Res} {fn : Func} {c : Code} {n : Nat} (hf : P.funcs[f]? = some fn) (hb : fn.body = some c) (hN : fn.ntmps = n) (hc : ∀ args w, (callFunc f args).run P w = .ok (.enter f args) w)
    (hn : As.length ≤ n)
    (h : ∀ C : Ctx, C.X = ids Mp → (∀ x ∈ C.X, x < C.w0.heap.size) → G P C ⟨f, none⟩ n [] [.code c] (enum As 0) Mp (Post C T M')) : SpecR P f As Mp β T M' := by
  subst hN
  refine ⟨hc, ?_⟩
  intro w V args hA hh hm
  refine CallsR.enter hf hb ?_
  refine Runs.mono ((h ⟨w, V, ids Mp⟩ rfl (fun x hx => hm.lt hx)).h _ w V ?_ (TF_enter hA) (Evo.refl hh) hm (fun b hb => .inl hb)) ?_
  · have := hA.1
    simp; omega
  · rintro v w' ⟨x, V', h1, h2, h3, h4⟩
    exact ⟨x, V', h1, h2, h3, h4⟩
end Go.Rt
