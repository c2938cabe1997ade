/- Function values; literals of slices and structs. -/
import Derived.Test.YtkoinfegbkigcaaRtI
namespace Go.Rt

/-- A function value: called on arguments of types A x it hands back a value of type B x, and turns nothing that was there. -/
def FnV (P : Program) {ι : Type} (A : ι → List Ty) (B : ι → Ty) : Ty :=
  ⟨fun v V => ∃ f fst cap, v = .func (.func f) fst cap ∧ (∀ args w, (callFunc f args).run P w = .ok (.enter f args) w) ∧
      ∀ (x : ι) w V' args, View.Le V V' → Has w V' → TA args (A x) V' → CallsR P f (fst ++ args ++ cap) w fun v w' => ∃ V'', Evo [] w V' w' V'' ∧ (B x).p v V'',
   fun _ _ _ hl ⟨f, fst, cap, h1, h2, h3⟩ => ⟨f, fst, cap, h1, h2, fun x w V' args hl' => h3 x w V' args (hl.trans hl')⟩⟩

section
variable {P : Program} {F : List (Nat × Ty)} {M : List Res} {o : Oper} {T : Ty}

/-- A function of the program, as a value. -/
theorem ot_fn {ι : Type} {A : ι → List Ty} {B : ι → Ty} {f : FuncId} (h : ∀ x, FnS P f (A x) (B x)) [Nonempty ι] : OT F (.func f) (FnV P A B) :=
  ⟨fun t V _ => ⟨f, #[], #[], rfl, (h (Classical.choice inferInstance)).c, fun x w V' args _ hh ha => by
    simp only [Array.empty_append, Array.append_empty]
    exact Runs.mono ((h x).h w V' args ha hh (Mem.nil _ _)) fun v w' ⟨_, V'', h1, h2, _, _⟩ => ⟨V'', h1.weaken (by simp [ids]), h2⟩⟩⟩

theorem ta_append {xs ys : Array Value} {As Bs : List Ty} {V : View} (h1 : TA xs As V) (h2 : TA ys Bs V) : TA (xs ++ ys) (As ++ Bs) V := by
  refine ⟨by simp [h1.1, h2.1], fun i A e => ?_⟩
  by_cases hi : i < As.length
  · rw [List.getElem?_append_left hi] at e
    have := h1.2 i A e
    have hx : i < xs.size := by rw [h1.1]; exact hi
    simpa [Array.getD_eq_getD_getElem?, Array.getElem?_append, hx] using this
  · rw [List.getElem?_append_right (by omega)] at e
    have := h2.2 _ A e
    have hx : ¬ i < xs.size := by rw [h1.1]; exact hi
    simpa [Array.getD_eq_getD_getElem?, Array.getElem?_append, hi, h1.1] using this

theorem TA.le {xs : Array Value} {As : List Ty} {V V' : View} (h : TA xs As V) (hl : V.Le V') : TA xs As V' := ⟨h.1, fun i A e => A.mono _ _ _ hl (h.2 i A e)⟩

/-- A closure: what it has captured comes behind its arguments. -/
theorem t_closure {ι : Type} {A : ι → List Ty} {B : ι → Ty} {f : FuncId} {xs : List Operand} {Cs : List Ty} [Nonempty ι] (h : ∀ x, FnS P f (A x ++ Cs) (B x)) (ho : o.op = .makeFunc (.func f) #[] xs.toArray := by rfl)
    (hx : OTs F xs Cs := by (repeat (first | exact trivial | refine ⟨by first | exact ot_tmp rfl | exact ot_const, ?_⟩)); first | done | fail) : OpT P F M o (FnV P A B) :=
  opT_val fun tm V w hf _ _ => by
    have hta := hx.ta fun x hm => hf x (by simp [ho, Op.operands, hm])
    refine ⟨.func (.func f) #[] (xs.toArray.map (ev tm)), ?_, f, #[], _, rfl, (h (Classical.choice inferInstance)).c, fun x w V' args hl hh ha => ?_⟩
    · simp [execOp, ho, Instr.makeFunc]
    · simp only [Array.empty_append]
      exact Runs.mono ((h x).h w V' _ (ta_append ha (hta.le hl)) hh (Mem.nil _ _)) fun v w' ⟨_, V'', h1, h2, _, _⟩ => ⟨V'', h1.weaken (by simp [ids]), h2⟩

theorem t_calldyn {ι : Type} {A : ι → List Ty} {B : ι → Ty} {y : Operand} {xs : List Operand} {ats : Array TypeId} (x : ι) (ho : o.op = .call { callee := .value y, args := xs.toArray, argTypes := ats } := by rfl)
    (hy : OT F y (FnV P A B) := by exact ot_tmp rfl) (hx : OTs F xs (A x) := by (repeat (first | exact trivial | refine ⟨by first | exact ot_tmp rfl | exact ot_const | exact ot_func | exact ot_sub (ot_tmp rfl) sl_slf, ?_⟩)); first | done | fail) : OpT P F M o (B x) := by
  refine ⟨fun tm w V hf hh hm => ?_⟩
  obtain ⟨f, fst, cap, h1, h2, h3⟩ := hy.h tm V (hf _ (by simp [ho, Op.operands, Call.operands]))
  have hta := hx.ta fun x hm => hf x (by simp [ho, Op.operands, Call.operands, hm])
  unfold OpRuns
  have : (execOp (ev tm) o).run P w = .ok (.enter f (fst ++ xs.toArray.map (ev tm) ++ cap)) w := by
    simp [execOp, ho, resolve, h1, Deferred.ofValue, invoke, h2]
  rw [this]
  exact h3 x w V _ (View.Le.refl _) hh hta

/-- Cells set one behind the other. -/
theorem fold_set (off : Nat) : ∀ (vs : List Value) (j : Nat) (cs : Array Value), off + j + vs.length ≤ cs.size →
    ((vs.zipIdx j).foldl (fun cs (c, j) => cs.setIfInBounds (off + j) c) cs).toList = cs.toList.take (off + j) ++ vs ++ cs.toList.drop (off + j + vs.length)
  | [], j, cs, _ => by simp
  | v :: vs, j, cs, h => by
    simp only [List.length_cons] at h
    rw [List.zipIdx_cons, List.foldl_cons, fold_set off vs (j + 1) _ (by simp; omega)]
    have hlt : off + j < cs.size := by omega
    simp only [Array.toList_setIfInBounds]
    rw [List.set_eq_take_append_cons_drop, if_pos (by simpa using hlt)]
    have l1 : (cs.toList.take (off + j)).length = off + j := by simp; omega
    rw [show off + (j + 1) = off + j + 1 from by omega]
    have e1 : (cs.toList.take (off + j) ++ v :: cs.toList.drop (off + j + 1)).take (off + j + 1) = cs.toList.take (off + j) ++ [v] := by
      have := List.take_length_add_append (l₁ := cs.toList.take (off + j)) (l₂ := v :: cs.toList.drop (off + j + 1)) 1
      rw [l1] at this
      rw [this]; simp
    have e2 : (cs.toList.take (off + j) ++ v :: cs.toList.drop (off + j + 1)).drop (off + j + 1 + vs.length) = cs.toList.drop (off + j + (vs.length + 1)) := by
      have := List.drop_length_add_append (l₁ := cs.toList.take (off + j)) (l₂ := v :: cs.toList.drop (off + j + 1)) (vs.length + 1)
      rw [l1] at this
      rw [show off + j + 1 + vs.length = off + j + (vs.length + 1) from by omega, this]
      simp only [List.drop_succ_cons, List.drop_drop]
      congr 1; omega
    rw [e1, e2]
    simp

end
end Go.Rt
