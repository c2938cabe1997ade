/- From the row to the calculus: all memory as it lies at the call; slices as they come in; what a law owes behind the call. -/
import Derived.Test.YtkoinfegbkigcaaRtR
import Derived.ProofKit
import Derived.OpenShut
namespace Go.Rt
open Go.ChangeShapes Go.WideShapes Go.ChangeAt Go.RowKit

/-- All that lies in memory. -/
def allV (W : World) : View := fun k => W.heap[k]?
theorem has_allV (W : World) : Has W (allV W) := fun _ _ h => h

theorem FnS.calls {P : Program} {f : FuncId} {As : List Ty} {T : Ty} (h : FnS P f As T) {W : World} {args : Array Value} (ha : TA args As (allV W)) :
    Calls P f args W fun e W' => ∃ v V', e = .returned v ∧ Evo [] W (allV W) W' V' ∧ T.p v V' := by
  refine (CallsR.calls (h.h W (allV W) args ha (has_allV W) (Mem.nil _ _))).mono ?_
  rintro e W' ⟨v, rfl, x, V', h1, h2, _, _⟩
  exact ⟨v, V', rfl, h1.weaken (by simp [ids]), h2⟩

theorem choose_all {α : Type} {p : Nat → α → Prop} : ∀ n, (∀ i, i < n → ∃ c, p i c) → ∃ l : List α, l.length = n ∧ ∀ i, i < n → ∃ x, l[i]? = some x ∧ p i x
  | 0, _ => ⟨[], rfl, by omega⟩
  | n + 1, h => by
    obtain ⟨l, h1, h2⟩ := choose_all n (fun i hi => h i (by omega))
    obtain ⟨c, hc⟩ := h n (by omega)
    refine ⟨l ++ [c], by simp [h1], fun i hi => ?_⟩
    by_cases e : i = n
    · subst e; exact ⟨c, by simp [h1], hc⟩
    · obtain ⟨x, h3, h4⟩ := h2 i (by omega)
      exact ⟨x, by rw [List.getElem?_append_left (by omega)]; exact h3, h4⟩

section
variable {H : Type} {enc : TypeId × Value → H} {P : Program} {w : World} {base : Nat} {spare : Nat → Bool} {held : Bool}

/-- How the elements of a type are read. -/
structure OpenT (enc : TypeId × Value → H) (P : Program) (w : World) (base : Nat) (spare : Nat → Bool) (held : Bool) (e : TypeId) (α : Type) [Enc α] (Q : α → Prop) : Prop where
  h : ∀ n cs y, DataW.trod enc P w base spare held n e cs = some y → cs.length = Enc.sz α → ∃ x : α, Q x ∧ ∀ (i : Nat) (T : Ty), (Enc.ty x)[i]? = some T → ∃ c, cs[i]? = some c ∧ T.p c (allV w)

theorem open_sl {α : Type} [Enc α] [Inhabited α] {t e : TypeId} {Q : α → Prop} (ht : P.underlying t = some (.slice e)) (hc : P.cellsOf e = Enc.sz α) (ho : OpenT enc P w base spare held e α Q) {r : Reach} {b0 : Nat} {v : Value} {d : DataW H} {ps : List MemPlace}
    (hval : Value.okWide P w r b0 t v) (h : DataW.Trod enc P w base spare held t v d ps) : ∃ xs : List α, (Sl xs).p v (allV w) ∧ ∀ x ∈ xs, Q x := by
  obtain ⟨fuel, hf⟩ := h
  have hcell : v.cells.toList = [v] := by
    simp only [Value.okWide, ht, Cell.okWide] at hval
    cases v <;> simp_all [Cell.ok, Value.cells]
  rw [hcell] at hf
  rcases DataW.trod_slice ht hf with ⟨h0, _⟩ | ⟨a, len, cap, elems, rest, n, _, h0, _, _, hl, hm, hlen, hel, _, _⟩
  · simp only [List.cons.injEq, and_true] at h0
    exact ⟨[], ⟨none, 0, 0, h0, rfl, Nat.le_refl _, by omega, fun h => absurd rfl h⟩, by simp⟩
  · simp only [List.cons.injEq, and_true] at h0
    subst h0
    have hpos := Enc.pos (α := α)
    have hall : ∀ i, i < len → ∃ x : α, Q x ∧ ∀ (j : Nat) (T : Ty), (Enc.ty x)[j]? = some T → ∃ c, w.cell? ((a.add (i * Enc.sz α)).add j) = some c ∧ T.p c (allV w) := by
      intro i hi
      have h1 := hel i hi
      rw [List.getElem?_eq_getElem (by omega), Option.bind_eq_some_iff] at h1
      obtain ⟨cs, h2, h3⟩ := h1
      obtain ⟨_, h4, h5⟩ := World.cells?_some h2
      obtain ⟨x, hq, hx⟩ := ho.h _ _ _ h3 (by rw [h4, hc])
      refine ⟨x, hq, fun j T e' => ?_⟩
      obtain ⟨c, g1, g2⟩ := hx j T e'
      have hj : j < P.cellsOf e := by rw [hc, ← Enc.len x]; exact (List.getElem?_eq_some_iff.1 e').1
      refine ⟨c, ?_, g2⟩
      have := h5 j hj
      rw [hc] at this
      rw [this]; exact g1
    obtain ⟨xs, hxl, hxs⟩ := choose_all len hall
    have hlen' : cap ≤ 9223372036854775807 := by unfold maxLen at hm; omega
    refine ⟨xs, ⟨some a, len, cap, rfl, hxl.symm, hl, hlen', fun hne => ⟨a, rfl, ?_⟩⟩, fun x hx => ?_⟩
    · have h0 : 0 < len := by rw [← hxl]; exact List.length_pos_iff.2 hne
      have hadd0 : ∀ x : Addr, x.add 0 = x := fun x => by simp [Addr.add]
      obtain ⟨x0, e0, _, g0⟩ := hxs 0 h0
      obtain ⟨c0, k0, _⟩ := g0 0 _ (List.getElem?_eq_getElem (by rw [Enc.len]; exact hpos))
      rw [Nat.zero_mul, hadd0, hadd0] at k0
      have hsp : a.spot = none ∧ ∃ cs E fz, w.heap[a.block]? = some (.cells cs E fz) := by
        unfold World.cell? at k0
        split at k0
        · rename_i cs E fz hb
          split at k0
          · cases k0
          · rename_i hs
            exact ⟨by simpa using hs, cs, E, fz, hb⟩
        · cases k0
      obtain ⟨hspot, cs, E, fz, hb⟩ := hsp
      refine ⟨hspot, cs, E, fz, hb, fun i T e' => ?_⟩
      have hil : i < len * Enc.sz α := by
        have := (List.getElem?_eq_some_iff.1 e').1
        rw [length_flatMap, hxl] at this; exact this
      have hq : i / Enc.sz α < len := (Nat.div_lt_iff_lt_mul hpos).2 hil
      have hj : i % Enc.sz α < Enc.sz α := Nat.mod_lt _ hpos
      have hrow := row_at (α := α) (xs := xs) (i := i / Enc.sz α) (j := i % Enc.sz α) (by rw [hxl]; exact hq) hj
      have hi : i / Enc.sz α * Enc.sz α + i % Enc.sz α = i := by rw [Nat.mul_comm]; exact Nat.div_add_mod _ _
      rw [hi] at hrow
      obtain ⟨x, e1, _, g⟩ := hxs _ hq
      have hgd : xs.getD (i / Enc.sz α) default = x := by simp [List.getD, e1]
      rw [hrow, hgd] at e'
      obtain ⟨c, k1, k2⟩ := g _ T e'
      refine ⟨c, ?_, k2⟩
      have hadd : (a.add (i / Enc.sz α * Enc.sz α)).add (i % Enc.sz α) = ⟨a.block, a.off + i, none⟩ := by
        obtain ⟨ab, ao, asp⟩ := a
        simp only at hspot
        subst hspot
        rw [add_mk, add_mk, Nat.add_assoc, hi]
      rw [hadd] at k1
      simpa [World.cell?, hb] using k1
    · obtain ⟨i, hi⟩ := List.getElem?_of_mem hx
      obtain ⟨x', e1, hq, _⟩ := hxs i (by rw [← hxl]; exact (List.getElem?_eq_some_iff.1 hi).1)
      rw [hi] at e1
      cases e1
      exact hq

theorem trodAll_below (hl : laidOutB P = true) {W W' : World} (hb : Below W.heap.size W W') : ∀ {ts : List TypeId} {vs : List Value} {ds : List (DataW H)} {ps : List MemPlace}, (∀ t ∈ ts, P.readableRec t = true ∧ t < P.types.size) → DataW.TrodAll enc P W 0 (fun _ => true) true ts vs ds ps →
    (∀ x ∈ ps, x.block < W.heap.size) → DataW.TrodAll enc P W' 0 (fun b => decide (b < W.heap.size)) true ts vs ds ps
  | [], [], [], _, _, h, _ => h
  | t :: ts, v :: vs, d :: ds, _, hr, ⟨p, q, h1, h2, e⟩, hs => by
    subst e
    obtain ⟨r1, r2⟩ := hr t (by simp)
    exact ⟨p, q, Below.trod hl r1 r2 h1 hb (fun x hx => hs x (by simp [hx])), trodAll_below hl hb (fun u hu => hr u (by simp [hu])) h2 (fun x hx => hs x (by simp [hx])), rfl⟩

theorem kept_of_evo {W W' : World} {V V' : View} (h : Evo [] W V W' V') (may : MemPlace → Prop) : W.keptBut W' may := by
  refine ⟨h.os, h.output, fun i hi => ?_⟩
  rw [h.block i hi (by simp)]
  cases W.heap[i]? with
  | none => rfl
  | some o => cases o <;> first | rfl | exact ⟨rfl, rfl, rfl, fun _ _ => rfl⟩ | exact .inr ⟨rfl, rfl⟩

/-- What a law owes behind the call: true, and all as it was. -/
theorem post_true {f : Func} {s : ChangeSpec} {W W' : World} {V V' : View} {args : Array Value} {ds : List (DataW H)} {before : List MemPlace} {tb : TypeId} (hl : laidOutB P = true) (hr : ∀ t ∈ f.params.toList, P.readableRec t = true ∧ t < P.types.size)
    (hres : f.resultTypes = #[tb]) (hb : P.underlying tb = some .bool) (hv : s.vars = []) (hfn : s.fn H ds = { results := [.lit (.bool true)], args := ds })
    (hA : DataW.TrodAll enc P W 0 (fun _ => true) true f.params.toList args.toList ds before) (hW : DataW.Whole enc P f.params.toList s.vars false W args.toList ds [] before) (hev : Evo [] W V W' V') :
    s.post enc P f false true false false W args (.bool true) W' := by
  have hbelow : Below W.heap.size W W' := ⟨hev.os, hev.tape, hev.output, hev.size, fun k hk => hev.block k hk (by simp)⟩
  refine ⟨ds, [], before, [], before, [], hW, ?_, ?_, ?_, kept_of_evo hev _, fun h => by cases h⟩
  · rw [List.append_nil, hfn, hres]
    exact trodAll_mk1 (shut_bool hb true)
  · rw [List.append_nil, hfn]
    exact trodAll_below hl hbelow hr hA (fun x hx => by simpa using hW.lt x hx)
  · rw [List.append_nil, hfn, hv]
    rfl
end
end Go.Rt
